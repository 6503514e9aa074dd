/- Bytes: their sum, and two bytes put behind. What the functions SaveSum, two and l41Two come to. No condition. -/
import Derived.Test.YtabbipdkbdojiaaCodeB
import Derived.Test.YtabbipdkbdojiaaData
import Derived.Test.YtabbipdkbdojiaaAb15
namespace Go.Ab
open Go

def by8 (n : Int) : UInt8 := UInt8.ofNat (n % 256).toNat
theorem by8_toNat (n : Int) : ((by8 n).toNat : Int) = n % 256 := by
  have h1 : 0 ≤ n % 256 := Int.emod_nonneg _ (by decide)
  have h2 : n % 256 < 256 := Int.emod_lt_of_pos _ (by decide)
  simp only [by8, UInt8.toNat_ofNat']
  omega
theorem wrap_by8 (n : Int) : IntKind.u8.wrap n = ((by8 n).toNat : Int) := by rw [by8_toNat, IntKind.wrap_u8]
/-- Bytes that don't change. -/
def bytesI (bs : List UInt8) : AV := .imm false (bs.map fun x => [yA x])
theorem vw_bytes {h : Heap} {b : Nat} {e : TypeId} {bs : List UInt8} (hb : h b = some (.row e (bs.map yA))) : Vw h (.own b bs.length) (bytesI bs) := by
  have := Vw.own (h := h) b e (bs.map yA) (bs.map fun x => [yA x]) 1 (fun i _ => yA (bs.getD i 0)) hb (fun i l hl => by
      rw [List.getElem?_map] at hl; cases hbi : bs[i]? <;> simp [hbi] at hl; subst hl; rfl)
    (fun i l j x hl hx => by
      rw [List.getElem?_map] at hl
      cases hbi : bs[i]? with
      | none => simp [hbi] at hl
      | some y =>
        simp [hbi] at hl; subst hl
        have : j = 0 := by have := (List.getElem?_eq_some_iff.1 hx).1; simpa using this
        subst this
        simp [hbi, List.getD_eq_getElem?_getD])
    (fun i l j x hl hx => by
      rw [List.getElem?_map] at hl
      cases hbi : bs[i]? with
      | none => simp [hbi] at hl
      | some y =>
        simp [hbi] at hl; subst hl
        have : j = 0 := by have := (List.getElem?_eq_some_iff.1 hx).1; simpa using this
        subst this
        simp at hx; subst hx
        simp [hbi, List.getD_eq_getElem?_getD]; exact .refl _)
  rwa [List.length_map] at this

theorem all_yA {l : List UInt8} : (l.map yA).all oneC = true := by
  rw [List.all_eq_true]; intro x hx; obtain ⟨y, -, rfl⟩ := List.mem_map.1 hx; rfl
/-- The sum of the first k bytes. -/
def sumTo (bs : List UInt8) : Nat → Int
  | 0 => 0
  | k + 1 => (sumTo bs k + (bs.getD k 0).toNat * (k % 251 + 1)) % 65521
def sumB (bs : List UInt8) : Int := sumTo bs bs.length
theorem sumTo_range (bs : List UInt8) : ∀ k, 0 ≤ sumTo bs k ∧ sumTo bs k < 65521
  | 0 => by simp [sumTo]
  | k + 1 => by
    simp only [sumTo]
    exact ⟨Int.emod_nonneg _ (by decide), Int.emod_lt_of_pos _ (by decide)⟩
theorem sumB_range (bs : List UInt8) : 0 ≤ sumB bs ∧ sumB bs < 65521 := sumTo_range bs _
def twoB (n : Int) : List UInt8 := [by8 (n.tdiv 256), by8 (n.tmod 256)]
theorem mul_bound {x : UInt8} {k : Nat} : 0 ≤ (x.toNat : Int) * ((k : Int) % 251 + 1) ∧ (x.toNat : Int) * ((k : Int) % 251 + 1) ≤ 64005 := by
  have h1 := x.toNat_lt
  have h2 : 0 ≤ (k : Int) % 251 := Int.emod_nonneg _ (by decide)
  have h3 : (k : Int) % 251 < 251 := Int.emod_lt_of_pos _ (by decide)
  refine ⟨Int.mul_nonneg (by omega) (by omega), ?_⟩
  have : (x.toNat : Int) * ((k : Int) % 251 + 1) ≤ 255 * 251 := Int.mul_le_mul (by omega) (by omega) (by omega) (by decide)
  omega
end Go.Ab

namespace Go.Proofs.Ytabbipdkbdojiaa
open Go Go.Ab
set_option linter.unusedVariables false
set_option linter.unusedSimpArgs false

end Go.Proofs.Ytabbipdkbdojiaa
