/- How bytes are read from a law's arguments. No condition. -/
import Derived.Test.YtedlpghakpfjjaaReadCfg
namespace Go.Proofs.Ytedlpghakpfjjaa
open Go Go.Ab
set_option linter.unusedVariables false
variable {H : Type} {enc : TypeId × Value → H} {w : World}
theorem u8_wf {m : Int} (h : (Lit.int .u8 m).wf = true) : ((by8 m).toNat : Int) = m := by
  have h' : 0 ≤ m ∧ m ≤ 255 := by
    simp only [Lit.wf, Bool.and_eq_true, decide_eq_true_eq] at h
    have h1 : IntKind.u8.min = 0 := by decide
    have h2 : IntKind.u8.max = 255 := by decide
    rw [h1, h2] at h; exact h
  rw [by8_toNat]; omega
theorem reads_u8 (n : Nat) : Reads enc Try.prog w n 5 (fun b : UInt8 => [yA b]) (fun _ => True) :=
  reads_map (reads_int Try.underlying5 n) (fun m => by8 m) (fun m h => ⟨by rw [yA, u8_wf h], trivial⟩)
theorem cellsByte : Try.prog.cellsOf 5 = 1 := by kernel_rfl
theorem reads_bytes (n : Nat) : Reads enc Try.prog w n 22 (fun bs : List UInt8 => [bytesI bs]) (fun bs => bs.length ≤ 9223372036854775807) :=
  reads_map (reads_slice Try.underlying22 (by rw [cellsByte]; decide) (fun a => by rw [cellsByte]; rfl) (fun m _ => reads_u8 m)) (fun l => l) (fun l h => ⟨rfl, h.1⟩)
end Go.Proofs.Ytedlpghakpfjjaa
