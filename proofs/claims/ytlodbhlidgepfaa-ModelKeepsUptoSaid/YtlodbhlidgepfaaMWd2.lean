/- model: Do. -/
import Derived.Test.YtlodbhlidgepfaaMWi1
import Derived.Test.YtlodbhlidgepfaaMWi2
import Derived.Test.YtlodbhlidgepfaaMWi3
import Derived.Test.YtlodbhlidgepfaaMWi4
import Derived.Test.YtlodbhlidgepfaaMWi5
set_option linter.unusedVariables false
set_option linter.unusedSimpArgs false
namespace Go.Proofs.Ytlodbhlidgepfaa
open Go.RowKit
open Voc Leb Bpe
namespace Mod
theorem do_ok {B : Nat → Prop} {w : World} {dv pv bv : Value} {s : St} {d : Dd} (HR : RS B w dv pv s) (hw : wfS s) (hnd : s.docs.length < 1048000) (HV : SL encB w bv d.b) (hdb : Leb.Bs d.b) (hdl : d.b.length ≤ 1048576) (hm : mayB s = true) (hd : dmayE d = true) :
    Calls Try.prog 6 #[.agg (stA dv pv s.next), .agg (ddA d bv)] w (DoPost w (doE s d).1 (doE s d).2) := by
  rcases kinds hd with h | h | h | h | h | h | h | h | h
  · exact do_k19 HR hw hnd HV hdb hdl hm hd (Or.inl h)
  · exact do_k2 HR hw hnd HV hdb hdl hm hd h
  · exact do_k3 HR hw hnd HV hdb hdl hm hd (Or.inl h)
  · exact do_k4 HR hw hnd HV hdb hdl hm hd h
  · exact do_k5 HR hw hnd HV hdb hdl hm hd h
  · exact do_k3 HR hw hnd HV hdb hdl hm hd (Or.inr h)
  · exact do_k78 HR hw hnd HV hdb hdl hm hd (Or.inl h)
  · exact do_k78 HR hw hnd HV hdb hdl hm hd (Or.inr h)
  · exact do_k19 HR hw hnd HV hdb hdl hm hd (Or.inr h)
theorem do_any {B : Nat → Prop} {w : World} {dv pv bv : Value} {s : St} {d : Dd} (HR : RS B w dv pv s) (hw : wfS s) (hnd : s.docs.length < 1048000) (HV : SL encB w bv d.b) (hdb : Leb.Bs d.b) (hdl : d.b.length ≤ 1048576) :
    Calls Try.prog 6 #[.agg (stA dv pv s.next), .agg (ddA d bv)] w (DoPost w (doE s d).1 (doE s d).2) := by
  cases hm : mayB s with
  | false =>
    have h := do_arg HR hw HV hdl (Or.inl hm)
    have e : doE s d = (s, { an0 with e := 2 }) := by unfold doE; rw [if_pos (Or.inl hm)]
    rw [e]; exact h
  | true =>
    cases hd : dmayE d with
    | false =>
      have h := do_arg HR hw HV hdl (Or.inr hd)
      have e : doE s d = (s, { an0 with e := 2 }) := by unfold doE; rw [if_pos (Or.inr hd)]
      rw [e]; exact h
    | true => exact do_ok HR hw hnd HV hdb hdl hm hd
end Mod
end Go.Proofs.Ytlodbhlidgepfaa
