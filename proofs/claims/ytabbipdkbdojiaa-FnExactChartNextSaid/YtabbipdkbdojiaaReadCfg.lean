/- How productions are read from a law's arguments. No condition. -/
import Derived.Test.YtabbipdkbdojiaaLawCfg
namespace Go.Proofs.Ytabbipdkbdojiaa
open Go Go.Ab
set_option linter.unusedVariables false
variable {H : Type} {enc : TypeId × Value → H} {w : World}
theorem cellsInt : Try.prog.cellsOf 3 = 1 := by kernel_rfl
theorem cellsSym : Try.prog.cellsOf 155 = 3 := by kernel_rfl
theorem cellsSymS : Try.prog.cellsOf 117 = 1 := by kernel_rfl
theorem cellsPrd : Try.prog.cellsOf 119 = 2 := by kernel_rfl
theorem cellsPrdS : Try.prog.cellsOf 22 = 1 := by kernel_rfl
theorem cellsCfg : Try.prog.cellsOf 24 = 2 := by kernel_rfl
theorem reads_Sym (n : Nat) : Reads enc Try.prog w n 155 symA (fun _ => True) :=
  reads_map (reads_struct Try.underlying155 cellsSym (fields_cons rfl cellsInt (fun m _ => reads_int Try.underlying3 m) (fields_cons rfl cellsInt (fun m _ => reads_int Try.underlying3 m) (fields_cons rfl cellsInt (fun m _ => reads_int Try.underlying3 m) fields_nil))))
    (fun a => ⟨a.1, a.2.1, a.2.2.1⟩) (fun a _ => ⟨rfl, trivial⟩)
theorem reads_Prd (n : Nat) : Reads enc Try.prog w n 119 prdA PrdWf :=
  reads_map (reads_struct Try.underlying119 cellsPrd (fields_cons rfl cellsInt (fun m _ => reads_int Try.underlying3 m) (fields_cons rfl cellsSymS (fun m _ => reads_slice Try.underlying117 (by rw [cellsSym]; decide) (fun a => by rw [cellsSym]; rfl) (fun m _ => reads_Sym m)) fields_nil)))
    (fun a => (⟨a.1, a.2.1⟩ : Prd)) (fun a h => ⟨rfl, h.2.1.1⟩)
theorem reads_Cfg (n : Nat) : Reads enc Try.prog w n 24 cfgL CfgWf :=
  reads_map (reads_struct Try.underlying24 cellsCfg (fields_cons rfl cellsInt (fun m _ => reads_int Try.underlying3 m) (fields_cons rfl cellsPrdS (fun m _ => reads_slice Try.underlying22 (by rw [cellsPrd]; decide) (fun a => by rw [cellsPrd]; rfl) (fun m _ => reads_Prd m)) fields_nil)))
    (fun a => (⟨a.1, a.2.1⟩ : Cfg)) (fun a h => ⟨rfl, h.2.1⟩)
end Go.Proofs.Ytabbipdkbdojiaa
