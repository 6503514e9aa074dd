/- How charts are read from a law's arguments. No condition. -/
import Derived.Test.YtabbipdkbdojiaaLawChart
import Derived.Test.YtabbipdkbdojiaaReadCfg
namespace Go.Proofs.Ytabbipdkbdojiaa
open Go Go.Ab
set_option linter.unusedVariables false
variable {H : Type} {enc : TypeId × Value → H} {w : World}
theorem cellsItm : Try.prog.cellsOf 146 = 3 := by kernel_rfl
theorem cellsItmS : Try.prog.cellsOf 121 = 1 := by kernel_rfl
theorem cellsItmSS : Try.prog.cellsOf 25 = 1 := by kernel_rfl
theorem cellsCht : Try.prog.cellsOf 27 = 1 := by kernel_rfl
theorem reads_Itm (n : Nat) : Reads enc Try.prog w n 146 itmA (fun _ => True) :=
  reads_map (reads_struct Try.underlying146 cellsItm (fields_cons rfl cellsInt (fun m _ => reads_int Try.underlying3 m) (fields_cons rfl cellsInt (fun m _ => reads_int Try.underlying3 m) (fields_cons rfl cellsInt (fun m _ => reads_int Try.underlying3 m) fields_nil))))
    (fun a => ⟨a.1, a.2.1, a.2.2.1⟩) (fun a _ => ⟨rfl, trivial⟩)
theorem reads_Set (n : Nat) : Reads enc Try.prog w n 121 setA (fun s => s.length ≤ 9223372036854775807) :=
  reads_map (reads_slice Try.underlying121 (by rw [cellsItm]; decide) (fun a => by rw [cellsItm]; rfl) (fun m _ => reads_Itm m)) (fun l => l) (fun l h => ⟨rfl, h.1⟩)
theorem reads_Chart (n : Nat) : Reads enc Try.prog w n 27 chartL ChartWf :=
  reads_map (reads_struct Try.underlying27 cellsCht (fields_cons rfl cellsItmSS (fun m _ => reads_slice Try.underlying25 (by rw [cellsItmS]; decide) (fun a => by rw [cellsItmS]; rfl) (fun m _ => reads_Set m)) fields_nil))
    (fun a => (⟨a.1⟩ : Cht)) (fun a h => ⟨rfl, h.1⟩)
end Go.Proofs.Ytabbipdkbdojiaa
