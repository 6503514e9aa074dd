/- Trimmed productions, laid down for good. No condition. -/
import Derived.Test.YtabbipdkbdojiaaTrim3
namespace Go.Proofs.Ytabbipdkbdojiaa
open Go Go.Ab
theorem lay_trim {f : FuncId} {c : Cfg} {args : List AV} {h : Heap} {Q : AV → Heap → Prop} (hc : ∀ {Q' : AV → Heap → Prop}, (∀ t h', RowsT 85 2 EPrd (trimV c).prods t → Made h h' [t] → Q' (.agg [iA c.heads, tA t]) h') → CALL Try.prog f args h Q') (hQ : Q (cfgA (trimV c)) h) : CALL Try.prog f args h Q := by
  refine lay_made (α := Tree) (fun t _ => .agg [iA c.heads, tA t]) (fun t ts => ts = [t] ∧ RowsT 85 2 EPrd (trimV c).prods t) (fun _ => cfgA (trimV c)) (fun k => hc fun t h' r m => k t [t] h' ⟨rfl, r⟩ m) ?_ (fun _ _ _ => hQ)
  rintro t ts h' ⟨rfl, r⟩ hat
  exact vw_cfg (c := trimV c) hat.1 (prds_of r).2.1
theorem impl_Cfg_trim.i {c : Cfg} (ok : CfgOk c) {h : Heap} {Q : AV → Heap → Prop} (hQ : Q (cfgA (trimV c)) h) : CALL Try.prog impl_Cfg_trim.id [cfgA c] h Q := lay_trim (fun k => impl_Cfg_trim.c ok fun t h' r m => k t h' r m) hQ
theorem spec_CfgTrim.i {c : Cfg} (ok : CfgOk c) {h : Heap} {Q : AV → Heap → Prop} (hQ : Q (cfgA (trimV c)) h) : CALL Try.prog spec_CfgTrim.id [cfgA c] h Q := lay_trim (fun k => spec_CfgTrim.c ok fun t h' r m => k t h' r m) hQ
end Go.Proofs.Ytabbipdkbdojiaa
