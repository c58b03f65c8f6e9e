/-
Part 4 of a proof: the machine PM, its law, the walks through the program, and what they say: PW10, PW11, PW12, PW13, PW14, PW15, PW16, PW17, PW18, PW19, PW20, PW21, PW22, PW23, PW24, PW25, PW26, PW27, PW3, PW4, PW5, PW6, PW7, PW8, PW9.
-/
import Derived.Laws.Strings
import Derived.Test.YtdjioagepenhaaaCu3
set_option linter.unusedVariables false
set_option linter.unusedSimpArgs false
set_option linter.unusedSectionVars false
set_option linter.unnecessarySimpa false
namespace Go.PM.Try
open Go.Proofs
attribute [local irreducible] eIf eReq eGet eNil slLen slRows slIdx slSub slZero slView eFind eLoopN CC Sl.enc
variable {R : Type} [Stops R] [CCW R] {n : Nat} {fr : Frames} {K : PV → Option LB → Frames → Option R} {r : R}
set_option maxRecDepth 8000
set_option linter.unusedSectionVars false

theorem s100 {s : Sl Cnt} (hs : s.l.length < 1000000) {p : Cnt → Bool} {g : FuncId} {cap : List RV} (hp : FnP R n s.l (fun a : Cnt => gv a.enc) p g cap) (h : K (bv (s.l.any p)) none fr = some r) : (CC (n+2)).fn 100 [rv (s.enc 3 Cnt.enc), rv (.fn g cap)] fr K = some r := by
  refine cc q100_ok rfl ?_
  conv => lhs; whnf
  repeat' ((first | refine eIf_t ?_ | refine eIf_f ?_ | refine eGet_i rfl ?_ | refine eReq_i rfl ?_ | refine slLen_e ?_ | refine s117 hs hp ?_ | refine eIf_i (fun _ => ?_) (fun _ => ?_)) <;> (try (conv => lhs; whnf)))
  exact kb h (idxS_nonneg p s.l 0)
theorem s82 {s : Sl Rul} (hs : s.l.length < 1000000) {p : Rul → Bool} {g : FuncId} {cap : List RV} (hp : FnP R n s.l (fun a : Rul => gv a.enc) p g cap) (h : K (bv (s.l.any p)) none fr = some r) : (CC (n+2)).fn 82 [rv (s.enc 11 Rul.enc), rv (.fn g cap)] fr K = some r := by
  refine cc q82_ok rfl ?_
  conv => lhs; whnf
  repeat' ((first | refine eIf_t ?_ | refine eIf_f ?_ | refine eGet_i rfl ?_ | refine eReq_i rfl ?_ | refine slLen_e ?_ | refine s106 hs hp ?_ | refine eIf_i (fun _ => ?_) (fun _ => ?_)) <;> (try (conv => lhs; whnf)))
  exact kb h (idxS_nonneg p s.l 0)
theorem s112 {s : Sl Rul} (hs : s.l.length < 1000000) {p : Rul → Bool} {g : FuncId} {cap : List RV} (hp : FnP R n s.l (fun a : Rul => gv a.enc) p g cap) (h : K (bv (s.l.any p)) none fr = some r) : (CC (n+2)).fn 112 [rv (s.enc 11 Rul.enc), rv (.fn g cap)] fr K = some r := by
  refine cc q112_ok rfl ?_
  conv => lhs; whnf
  repeat' ((first | refine eIf_t ?_ | refine eIf_f ?_ | refine eGet_i rfl ?_ | refine eReq_i rfl ?_ | refine slLen_e ?_ | refine s123 hs hp ?_ | refine eIf_i (fun _ => ?_) (fun _ => ?_)) <;> (try (conv => lhs; whnf)))
  exact kb h (idxS_nonneg p s.l 0)
theorem s104 {s : Sl Whn} (hs : s.l.length < 1000000) {p : Whn → Bool} {g : FuncId} {cap : List RV} (hp : FnP R n s.l (fun a : Whn => gv a.enc) p g cap) (h : K (bv (s.l.any p)) none fr = some r) : (CC (n+2)).fn 104 [rv (s.enc 2 Whn.enc), rv (.fn g cap)] fr K = some r := by
  refine cc q104_ok rfl ?_
  conv => lhs; whnf
  repeat' ((first | refine eIf_t ?_ | refine eIf_f ?_ | refine eGet_i rfl ?_ | refine eReq_i rfl ?_ | refine slLen_e ?_ | refine s121 hs hp ?_ | refine eIf_i (fun _ => ?_) (fun _ => ?_)) <;> (try (conv => lhs; whnf)))
  exact kb h (idxS_nonneg p s.l 0)

def countS (c : Cnt) : Bool := nameS c.thing && decide (0 ≤ c.least) && decide (c.least ≤ c.most) && decide (c.most ≤ 1000)
theorem s108 {c : Cnt} (h : K (bv (countS c)) none fr = some r) : (CC (n+6)).fn 108 [gv c.enc] fr K = some r := by
  refine cc q108_ok rfl ?_
  conv => lhs; whnf
  repeat' ((first | refine eIf_t ?_ | refine eIf_f ?_ | refine eGet_i rfl ?_ | refine eReq_i rfl ?_ | refine slLen_e ?_ | refine s53 ?_ | refine eIf_i (fun _ => ?_) (fun _ => ?_)) <;> (try (conv => lhs; whnf)))
  all_goals exact kb h (by simp_all [countS] <;> omega)
theorem s107 {c : Cnt} (h : K (bv (!(countS c))) none fr = some r) : (CC (n+7)).fn 107 [gv c.enc] fr K = some r := by
  refine cc q107_ok rfl ?_
  conv => lhs; whnf
  repeat' ((first | refine eIf_t ?_ | refine eIf_f ?_ | refine eGet_i rfl ?_ | refine eReq_i rfl ?_ | refine slLen_e ?_ | refine s108 ?_ | refine eIf_i (fun _ => ?_) (fun _ => ?_)) <;> (try (conv => lhs; whnf)))
  exact h

def whenS (w : Whn) : Bool := decide (0 ≤ w.size) && decide (w.size ≤ 5) && betweenS w.least 0 1073741824
def ruleS (x : Rul) : Bool :=
  nameS x.name && decide (x.roads.l.length ≤ 16) && decide (x.whens.l.length ≤ 6) && decide (x.counts.l.length ≤ 6) && decide (0 ≤ x.days) && decide (x.days ≤ 127) && betweenS x.cost 0 1073741824 &&
  (betweenS x.h0 0 1440 && betweenS x.s0 0 365 && betweenS x.h1 0 1440 && betweenS x.s1 0 365) && x.roads.l.all nameS && x.whens.l.all whenS && x.counts.l.all countS
/-- The rest of a list keeps p. -/
theorem all_drop {α : Type} {p : α → Bool} {l : List α} {k : Nat} {x : α} (hx : l[k]? = some x) : (l.drop k).all p = (p x && (l.drop (k + 1)).all p) := by
  obtain ⟨h1, h2⟩ := List.getElem?_eq_some_iff.1 hx
  rw [List.drop_eq_getElem_cons h1, h2, List.all_cons]
theorem any_drop {α : Type} {p : α → Bool} {l : List α} {k : Nat} {x : α} (hx : l[k]? = some x) : (l.drop k).any p = (p x || (l.drop (k + 1)).any p) := by
  obtain ⟨h1, h2⟩ := List.getElem?_eq_some_iff.1 hx
  rw [List.drop_eq_getElem_cons h1, h2, List.any_cons]
theorem any_not {α : Type} (p : α → Bool) (l : List α) : (l.any fun x => !(p x)) = !(l.all p) := by
  induction l with
  | nil => rfl
  | cons a l ih => simp [ih, Bool.not_and]

theorem s84 {x : Rul} (h : K (bv (ruleS x)) none fr = some r) : (CC (n+10)).fn 84 [gv x.enc] fr K = some r := by
  refine cc q84_ok rfl ?_
  conv => lhs; whnf
  repeat' ((first | refine eIf_t ?_ | refine eIf_f ?_ | refine eGet_i rfl ?_ | refine eReq_i rfl ?_ | refine slLen_e ?_ | refine s53 ?_ | refine s52 ?_ | refine eIf_i (fun _ => ?_) (fun _ => ?_)) <;> (try (conv => lhs; whnf)))
  all_goals try (exact kb h (by simp_all [ruleS] <;> omega))
  refine eLoop_u ?_
  conv => lhs; whnf
  repeat' ((first | refine eIf_t ?_ | refine eIf_f ?_ | refine eGet_i rfl ?_ | refine eReq_i rfl ?_ | refine slLen_e ?_ | refine s52 ?_ | refine eIf_i (fun _ => ?_) (fun _ => ?_)) <;> (try (conv => lhs; whnf)))
  all_goals try (exact kb h (by simp_all [ruleS] <;> omega))
  refine eLoop_u ?_
  conv => lhs; whnf
  repeat' ((first | refine eIf_t ?_ | refine eIf_f ?_ | refine eGet_i rfl ?_ | refine eReq_i rfl ?_ | refine slLen_e ?_ | refine s52 ?_ | refine eIf_i (fun _ => ?_) (fun _ => ?_)) <;> (try (conv => lhs; whnf)))
  all_goals try (exact kb h (by simp_all [ruleS] <;> omega))
  refine eLoop_u ?_
  conv => lhs; whnf
  repeat' ((first | refine eIf_t ?_ | refine eIf_f ?_ | refine eGet_i rfl ?_ | refine eReq_i rfl ?_ | refine slLen_e ?_ | refine eIf_i (fun _ => ?_) (fun _ => ?_)) <;> (try (conv => lhs; whnf)))
  rename_i e1 e2 e3 e4 e5 e6 e7 e8 e9 e10 e11
  simp only [decide_eq_false_iff_not, Bool.not_eq_false'] at e1 e2 e3 e4 e5 e6 e7 e8 e9 e10 e11
  have hr : K (bv (x.roads.l.all nameS && x.whens.l.all whenS && x.counts.l.all countS)) none fr = some r := kb h (by
    have b2 : x.roads.l.length ≤ 16 := by omega
    have b3 : x.whens.l.length ≤ 6 := by omega
    have b4 : x.counts.l.length ≤ 6 := by omega
    have b5 : 0 ≤ x.days := by omega
    have b6 : x.days ≤ 127 := by omega
    simp [ruleS, e1, b2, b3, b4, b5, b6, e7, e8, e9, e10, e11])
  clear h
  refine eLoop_l x.roads.l (fun k => [(1, rv (.vptr x.enc 0)), (65, rv (x.roads.enc 1 encS)), (66, iv x.roads.l.length), (67, iv k)]) (fun _ => [] :: fr) (fun k => K (bv ((x.roads.l.drop k).all nameS && x.whens.l.all whenS && x.counts.l.all countS)) none fr = some r) (fun k y L hx hk hC hL => ?_) (fun L hC => ?_) _ (by omega) hr
  · rw [all_drop hx] at hC
    conv => lhs; whnf
    repeat' ((first | refine eIf_t ?_ | refine eIf_f ?_ | refine eGet_i rfl ?_ | refine eReq_i rfl ?_ | refine slLen_e ?_ | refine eIf_ct (lt_t hk) ?_ | refine slIdx_e rfl (Int.natCast_nonneg _) hx ?_ | refine s53 ?_ | refine eIf_i (fun _ => ?_) (fun _ => ?_)) <;> (try (conv => lhs; whnf)))
    · rename_i hy
      exact kb hC (by simp_all)
    · rename_i hy
      rw [wrap_up (by omega)]
      exact hL (kb hC (by simp_all))
  · rw [List.drop_length] at hC
    conv => lhs; whnf
    repeat' ((first | refine eIf_t ?_ | refine eIf_f ?_ | refine eGet_i rfl ?_ | refine eReq_i rfl ?_ | refine slLen_e ?_ | refine eIf_cf lt_f ?_ | refine eIf_i (fun _ => ?_) (fun _ => ?_)) <;> (try (conv => lhs; whnf)))
    refine eLoop_l x.whens.l (fun k => [(1, rv (.vptr x.enc 0)), (76, rv (x.whens.enc 2 Whn.enc)), (77, iv x.whens.l.length), (78, iv k)]) (fun _ => [] :: fr) (fun k => K (bv ((x.whens.l.drop k).all whenS && x.counts.l.all countS)) none fr = some r) (fun k y L hx hk hC hL => ?_) (fun L hC => ?_) _ (by omega) (kb hC (by simp))
    · rw [all_drop hx] at hC
      conv => lhs; whnf
      repeat' ((first | refine eIf_t ?_ | refine eIf_f ?_ | refine eGet_i rfl ?_ | refine eReq_i rfl ?_ | refine slLen_e ?_ | refine eIf_ct (lt_t hk) ?_ | refine slIdx_e rfl (Int.natCast_nonneg _) hx ?_ | refine s52 ?_ | refine eIf_i (fun _ => ?_) (fun _ => ?_)) <;> (try (conv => lhs; whnf)))
      all_goals first
        | (refine kb hC ?_; simp_all [whenS]; done)
        | (refine kb hC ?_; simp_all [whenS]; omega)
        | (rw [wrap_up (by omega)]
           refine hL (kb hC ?_)
           simp_all [whenS]; done)
        | (rw [wrap_up (by omega)]
           refine hL (kb hC ?_)
           simp_all [whenS]; omega)
    · rw [List.drop_length] at hC
      conv => lhs; whnf
      repeat' ((first | refine eIf_t ?_ | refine eIf_f ?_ | refine eGet_i rfl ?_ | refine eReq_i rfl ?_ | refine slLen_e ?_ | refine eIf_cf lt_f ?_ | refine s100 (by omega) (p := fun c => !(countS c)) (fun c _ K r h => s107 h) ?_ | refine eIf_i (fun _ => ?_) (fun _ => ?_)) <;> (try (conv => lhs; whnf)))
      exact kb hC (by rw [any_not]; simp)
theorem s85 {x : Rul} (h : K (bv (ruleS x)) none fr = some r) : (CC (n+10)).fn 85 [gv x.enc] fr K = some r := by
  refine cc q85_ok rfl ?_
  conv => lhs; whnf
  repeat' ((first | refine eIf_t ?_ | refine eIf_f ?_ | refine eGet_i rfl ?_ | refine eReq_i rfl ?_ | refine slLen_e ?_ | refine s55 ?_ | refine s54 ?_ | refine eIf_i (fun _ => ?_) (fun _ => ?_)) <;> (try (conv => lhs; whnf)))
  all_goals try (exact kb h (by simp_all [ruleS] <;> omega))
  rename_i e1 e2 e3 e4 e5 e6 e7
  simp only [decide_eq_false_iff_not, Bool.not_eq_false'] at e1 e2 e3 e4 e5 e6 e7
  have hr : K (bv (x.roads.l.all nameS && x.whens.l.all whenS && (betweenS x.h0 0 1440 && betweenS x.s0 0 365 && betweenS x.h1 0 1440 && betweenS x.s1 0 365) && x.counts.l.all countS)) none fr = some r := kb h (by
    have b2 : x.roads.l.length ≤ 16 := by omega
    have b3 : x.whens.l.length ≤ 6 := by omega
    have b4 : x.counts.l.length ≤ 6 := by omega
    have b5 : 0 ≤ x.days := by omega
    have b6 : x.days ≤ 127 := by omega
    simp only [ruleS, e1, b2, b3, b4, b5, b6, e7, decide_true, Bool.true_and, Bool.and_true]
    cases betweenS x.h0 0 1440 <;> cases betweenS x.s0 0 365 <;> cases betweenS x.h1 0 1440 <;> cases betweenS x.s1 0 365 <;> simp)
  clear h
  refine eLoop_l x.roads.l (fun k => [(1, rv (.vptr x.enc 0)), (3, iv k)]) (fun _ => [] :: fr) (fun k => K (bv ((x.roads.l.drop k).all nameS && x.whens.l.all whenS && (betweenS x.h0 0 1440 && betweenS x.s0 0 365 && betweenS x.h1 0 1440 && betweenS x.s1 0 365) && x.counts.l.all countS)) none fr = some r) (fun k y L hx hk hC hL => ?_) (fun L hC => ?_) _ (by omega) hr
  · rw [all_drop hx] at hC
    conv => lhs; whnf
    repeat' ((first | refine eIf_t ?_ | refine eIf_f ?_ | refine eGet_i rfl ?_ | refine eReq_i rfl ?_ | refine slLen_e ?_ | refine eIf_ct (lt_t hk) ?_ | refine slIdx_e rfl (Int.natCast_nonneg _) hx ?_ | refine s55 ?_ | refine eIf_i (fun _ => ?_) (fun _ => ?_)) <;> (try (conv => lhs; whnf)))
    · rename_i hy
      exact kb hC (by simp_all)
    · rename_i hy
      rw [wrap_up (by omega)]
      exact hL (kb hC (by simp_all))
  · rw [List.drop_length] at hC
    conv => lhs; whnf
    repeat' ((first | refine eIf_t ?_ | refine eIf_f ?_ | refine eGet_i rfl ?_ | refine eReq_i rfl ?_ | refine slLen_e ?_ | refine eIf_cf lt_f ?_ | refine eIf_i (fun _ => ?_) (fun _ => ?_)) <;> (try (conv => lhs; whnf)))
    refine eLoop_l x.whens.l (fun k => [(1, rv (.vptr x.enc 0)), (4, iv k)]) (fun _ => [] :: fr) (fun k => K (bv ((x.whens.l.drop k).all whenS && (betweenS x.h0 0 1440 && betweenS x.s0 0 365 && betweenS x.h1 0 1440 && betweenS x.s1 0 365) && x.counts.l.all countS)) none fr = some r) (fun k y L hx hk hC hL => ?_) (fun L hC => ?_) _ (by omega) (kb hC (by simp))
    · rw [all_drop hx] at hC
      conv => lhs; whnf
      repeat' ((first | refine eIf_t ?_ | refine eIf_f ?_ | refine eGet_i rfl ?_ | refine eReq_i rfl ?_ | refine slLen_e ?_ | refine eIf_ct (lt_t hk) ?_ | refine slIdx_e rfl (Int.natCast_nonneg _) hx ?_ | refine s54 ?_ | refine eIf_i (fun _ => ?_) (fun _ => ?_)) <;> (try (conv => lhs; whnf)))
      all_goals first
        | (refine kb hC ?_; simp_all [whenS]; done)
        | (refine kb hC ?_; simp_all [whenS]; omega)
        | (rw [wrap_up (by omega)]
           refine hL (kb hC ?_)
           simp_all [whenS]; done)
        | (rw [wrap_up (by omega)]
           refine hL (kb hC ?_)
           simp_all [whenS]; omega)
    · rw [List.drop_length] at hC
      conv => lhs; whnf
      repeat' ((first | refine eIf_t ?_ | refine eIf_f ?_ | refine eGet_i rfl ?_ | refine eReq_i rfl ?_ | refine slLen_e ?_ | refine eIf_cf lt_f ?_ | refine eIf_i (fun _ => ?_) (fun _ => ?_)) <;> (try (conv => lhs; whnf)))
      refine eLoop_u ?_
      conv => lhs; whnf
      repeat' ((first | refine eIf_t ?_ | refine eIf_f ?_ | refine eGet_i rfl ?_ | refine eReq_i rfl ?_ | refine slLen_e ?_ | refine s54 ?_ | refine eIf_i (fun _ => ?_) (fun _ => ?_)) <;> (try (conv => lhs; whnf)))
      all_goals try (exact kb hC (by simp_all; done))
      refine eLoop_u ?_
      conv => lhs; whnf
      repeat' ((first | refine eIf_t ?_ | refine eIf_f ?_ | refine eGet_i rfl ?_ | refine eReq_i rfl ?_ | refine slLen_e ?_ | refine s54 ?_ | refine eIf_i (fun _ => ?_) (fun _ => ?_)) <;> (try (conv => lhs; whnf)))
      all_goals try (exact kb hC (by simp_all; done))
      refine eLoop_u ?_
      conv => lhs; whnf
      repeat' ((first | refine eIf_t ?_ | refine eIf_f ?_ | refine eGet_i rfl ?_ | refine eReq_i rfl ?_ | refine slLen_e ?_ | refine eIf_i (fun _ => ?_) (fun _ => ?_)) <;> (try (conv => lhs; whnf)))
      refine eLoop_l x.counts.l (fun k => [(1, rv (.vptr x.enc 0)), (6, iv k)]) (fun _ => [] :: fr) (fun k => K (bv ((x.counts.l.drop k).all countS)) none fr = some r) (fun k y L hx hk hC hL => ?_) (fun L hC => ?_) _ (by omega) (kb hC (by simp_all))
      · rw [all_drop hx] at hC
        conv => lhs; whnf
        repeat' ((first | refine eIf_t ?_ | refine eIf_f ?_ | refine eGet_i rfl ?_ | refine eReq_i rfl ?_ | refine slLen_e ?_ | refine eIf_ct (lt_t hk) ?_ | refine slIdx_e rfl (Int.natCast_nonneg _) hx ?_ | refine s55 ?_ | refine eIf_i (fun _ => ?_) (fun _ => ?_)) <;> (try (conv => lhs; whnf)))
        all_goals first
          | (refine kb hC ?_; simp_all [countS]; done)
          | (refine kb hC ?_; simp_all [countS]; omega)
          | (rw [wrap_up (by omega)]
             refine hL (kb hC ?_)
             simp_all [countS]; done)
          | (rw [wrap_up (by omega)]
             refine hL (kb hC ?_)
             simp_all [countS]; omega)
      · rw [List.drop_length] at hC
        conv => lhs; whnf
        repeat' ((first | refine eIf_t ?_ | refine eIf_f ?_ | refine eGet_i rfl ?_ | refine eReq_i rfl ?_ | refine slLen_e ?_ | refine eIf_cf lt_f ?_ | refine eIf_i (fun _ => ?_) (fun _ => ?_)) <;> (try (conv => lhs; whnf)))
        exact hC
end Go.PM.Try

namespace Go.PM.Try
open Go.Proofs
attribute [local irreducible] eIf eReq eGet eNil slLen slRows slIdx slSub slZero slView eFind eLoopN CC Sl.enc
variable {R : Type} [Stops R] [CCW R] {n : Nat} {fr : Frames} {K : PV → Option LB → Frames → Option R} {r : R}
set_option maxRecDepth 8000
set_option linter.unusedSectionVars false

def checkS (a : Aut) : Int :=
  bif decide (24 < a.rules.l.length) then 6 else bif nameS a.name && betweenS a.fee 0 1073741824 && betweenS a.notice 0 1048576 then (bif a.rules.l.all ruleS then 0 else 2) else 2
theorem s83 {x : Rul} (h : K (bv (!(ruleS x))) none fr = some r) : (CC (n+11)).fn 83 [gv x.enc] fr K = some r := by
  refine cc q83_ok rfl ?_
  conv => lhs; whnf
  repeat' ((first | refine eIf_t ?_ | refine eIf_f ?_ | refine eGet_i rfl ?_ | refine eReq_i rfl ?_ | refine slLen_e ?_ | refine s84 ?_ | refine eIf_i (fun _ => ?_) (fun _ => ?_)) <;> (try (conv => lhs; whnf)))
  exact h
theorem s50 {a : Aut} (h : K (iv (checkS a)) none fr = some r) : (CC (n+14)).fn 50 [gv a.enc] fr K = some r := by
  refine cc q50_ok rfl ?_
  conv => lhs; whnf
  repeat' ((first | refine eIf_t ?_ | refine eIf_f ?_ | refine eGet_i rfl ?_ | refine eReq_i rfl ?_ | refine slLen_e ?_ | refine s53 ?_ | refine s52 ?_ | refine s82 (p := fun x => !(ruleS x)) (by rename_i h1 _ _ _; simp at h1; omega) (fun x _ K r h => s83 h) ?_ | refine eIf_i (fun _ => ?_) (fun _ => ?_)) <;> (try (conv => lhs; whnf)))
  all_goals refine ki h ?_
  all_goals simp only [decide_eq_true_eq, decide_eq_false_iff_not, Bool.not_eq_true', Bool.not_eq_false', any_not] at *
  · rename_i h1
    simp [checkS, show 24 < a.rules.l.length by omega]
  · rename_i h1 h2
    simp [checkS, show ¬ 24 < a.rules.l.length by omega, h2]
  · rename_i h1 h2 h3
    simp [checkS, show ¬ 24 < a.rules.l.length by omega, h2, h3]
  · rename_i h1 h2 h3 h4
    simp [checkS, show ¬ 24 < a.rules.l.length by omega, h2, h3, h4]
  · rename_i h1 h2 h3 h4 h5
    simp only [checkS, show ¬ 24 < a.rules.l.length by omega, h2, h3, h4, h5, decide_false, cond_false, Bool.and_self, cond_true]
  · rename_i h1 h2 h3 h4 h5
    simp only [checkS, show ¬ 24 < a.rules.l.length by omega, h2, h3, h4, h5, decide_false, cond_false, Bool.and_self, cond_true]
theorem s51 {a : Aut} (h : K (iv (checkS a)) none fr = some r) : (CC (n+11)).fn 51 [gv a.enc] fr K = some r := by
  refine cc q51_ok rfl ?_
  conv => lhs; whnf
  repeat' ((first | refine eIf_t ?_ | refine eIf_f ?_ | refine eGet_i rfl ?_ | refine eReq_i rfl ?_ | refine slLen_e ?_ | refine s55 ?_ | refine s54 ?_ | refine eIf_i (fun _ => ?_) (fun _ => ?_)) <;> (try (conv => lhs; whnf)))
  · rename_i h1
    refine ki h ?_
    simp only [decide_eq_true_eq] at h1
    simp [checkS, show 24 < a.rules.l.length by omega]
  · rename_i h1 h2
    refine ki h ?_
    simp only [decide_eq_false_iff_not, Bool.not_eq_true'] at h1 h2
    simp [checkS, show ¬ 24 < a.rules.l.length by omega, h2]
  · rename_i h1 h2 h3
    refine ki h ?_
    simp only [decide_eq_false_iff_not, Bool.not_eq_true'] at h1 h3
    simp [checkS, show ¬ 24 < a.rules.l.length by omega, h3]
  · rename_i h1 h2 h3 h4
    refine ki h ?_
    simp only [decide_eq_false_iff_not, Bool.not_eq_true'] at h1 h4
    simp [checkS, show ¬ 24 < a.rules.l.length by omega, h4]
  · rename_i h1 h2 h3 h4
    simp only [decide_eq_false_iff_not, Bool.not_eq_false'] at h1 h2 h3 h4
    have h5 : checkS a = bif a.rules.l.all ruleS then 0 else 2 := by
      simp only [checkS, show ¬ 24 < a.rules.l.length by omega, h2, h3, h4, decide_false, cond_false, Bool.and_self, cond_true]
    rw [h5] at h
    clear h5
    refine eLoop_l a.rules.l (fun k => [(1, rv (.vptr a.enc 0)), (3, iv k)]) (fun _ => [] :: fr) (fun k => K (iv (bif (a.rules.l.drop k).all ruleS then 0 else 2)) none fr = some r) (fun k y L hx hk hC hL => ?_) (fun L hC => ?_) _ (by omega) h
    · rw [all_drop hx] at hC
      conv => lhs; whnf
      repeat' ((first | refine eIf_t ?_ | refine eIf_f ?_ | refine eGet_i rfl ?_ | refine eReq_i rfl ?_ | refine slLen_e ?_ | refine eIf_ct (lt_t hk) ?_ | refine slIdx_e rfl (Int.natCast_nonneg _) hx ?_ | refine s85 ?_ | refine eIf_i (fun _ => ?_) (fun _ => ?_)) <;> (try (conv => lhs; whnf)))
      · rename_i hy
        exact ki hC (by simp_all)
      · rename_i hy
        rw [wrap_up (by omega)]
        exact hL (ki hC (by simp_all))
    · rw [List.drop_length] at hC
      conv => lhs; whnf
      repeat' ((first | refine eIf_t ?_ | refine eIf_f ?_ | refine eGet_i rfl ?_ | refine eReq_i rfl ?_ | refine slLen_e ?_ | refine eIf_cf lt_f ?_ | refine eIf_i (fun _ => ?_) (fun _ => ?_)) <;> (try (conv => lhs; whnf)))
      exact hC
end Go.PM.Try

namespace Go.PM.Try
open Go.Proofs
attribute [local irreducible] eIf eReq eGet eNil slLen slRows slIdx slSub slZero slView eFind eLoopN CC Sl.enc
variable {R : Type} [Stops R] [CCW R] {n : Nat} {fr : Frames} {K : PV → Option LB → Frames → Option R} {r : R}
set_option maxRecDepth 8000
set_option linter.unusedSectionVars false

theorem beqB (a b : ByteArray) : (a == b) = true ↔ a = b := by
  obtain ⟨a⟩ := a; obtain ⟨b⟩ := b
  show (a == b) = true ↔ _
  simp
theorem eqB_iff (a b : ByteArray) : (a.toList == b.toList) = true ↔ a = b := by
  rw [ByteArray.toList_eq, ByteArray.toList_eq]
  obtain ⟨⟨a⟩⟩ := a; obtain ⟨⟨b⟩⟩ := b
  simp
theorem beq_eqB (a b : ByteArray) : (a == b) = (a.toList == b.toList) := by
  rw [Bool.eq_iff_iff, beqB, eqB_iff]

/-- The first error. -/
def errS : List Aut → Int
  | [] => 0
  | a :: l => bif checkS a != 0 then checkS a else errS l
def eqB (a b : ByteArray) : Bool := a.toList == b.toList
def hasN (x : ByteArray) (l : List ByteArray) : Bool := l.any (eqB x)
/-- Whether a name is there twice; those in front are known. -/
def dupN (seen : List ByteArray) : List ByteArray → Bool
  | [] => false
  | x :: l => hasN x seen || dupN (seen ++ [x]) l
def checkAllS (l : List Aut) : Int :=
  bif decide (l.length < 1) || decide (8 < l.length) then 6 else bif errS l != 0 then errS l else bif dupN [] (l.map (·.name)) then 12 else 0

theorem take_succ {α : Type} {l : List α} {k : Nat} {x : α} (hx : l[k]? = some x) : l.take (k + 1) = l.take k ++ [x] := by
  rw [List.take_add_one, hx]; rfl
theorem drop_succ {α : Type} {l : List α} {k : Nat} {x : α} (hx : l[k]? = some x) : l.drop k = x :: l.drop (k + 1) := by
  obtain ⟨h1, h2⟩ := List.getElem?_eq_some_iff.1 hx
  rw [List.drop_eq_getElem_cons h1, h2]

theorem s17 {s : Sl Aut} (h : K (iv (checkAllS s.l)) none fr = some r) : (CC (n+12)).fn 17 [rv (s.enc 4 Aut.enc)] fr K = some r := by
  refine cc q17_ok rfl ?_
  conv => lhs; whnf
  repeat' ((first | refine eIf_t ?_ | refine eIf_f ?_ | refine eGet_i rfl ?_ | refine eReq_i rfl ?_ | refine slLen_e ?_ | refine eIf_i (fun _ => ?_) (fun _ => ?_)) <;> (try (conv => lhs; whnf)))
  · rename_i h1
    exact ki h (by simp only [decide_eq_true_eq] at h1; simp [checkAllS, show s.l.length < 1 by omega])
  · rename_i h1 h2
    exact ki h (by simp only [decide_eq_true_eq] at h2; simp [checkAllS, show 8 < s.l.length by omega])
  · rename_i h1 h2
    simp only [decide_eq_false_iff_not] at h1 h2
    have h3 : checkAllS s.l = bif errS (s.l.drop 0) != 0 then errS (s.l.drop 0) else bif dupN [] (s.l.map (·.name)) then 12 else 0 := by
      simp only [checkAllS, show ¬ s.l.length < 1 by omega, show ¬ 8 < s.l.length by omega, decide_false, Bool.or_self, cond_false, List.drop_zero]
    rw [h3] at h
    refine eLoop_l s.l (fun k => [(0, rv (s.enc 4 Aut.enc)), (3, iv k)]) (fun _ => [] :: fr) (fun k => K (iv (bif errS (s.l.drop k) != 0 then errS (s.l.drop k) else bif dupN [] (s.l.map (·.name)) then 12 else 0)) none fr = some r) (fun k y L hx hk hC hL => ?_) (fun L hC => ?_) _ (by omega) h
    · rw [drop_succ hx] at hC
      conv => lhs; whnf
      repeat' ((first | refine eIf_t ?_ | refine eIf_f ?_ | refine eGet_i rfl ?_ | refine eReq_i rfl ?_ | refine slLen_e ?_ | refine eIf_ct (lt_t hk) ?_ | refine slIdx_e rfl (Int.natCast_nonneg _) hx ?_ | refine s51 ?_ | refine eIf_i (fun _ => ?_) (fun _ => ?_)) <;> (try (conv => lhs; whnf)))
      · rename_i hy
        exact ki hC (by simp [errS, hy])
      · rename_i hy
        rw [wrap_up (by omega)]
        exact hL (ki hC (by simp [errS, hy]))
    · rw [List.drop_length] at hC
      conv => lhs; whnf
      repeat' ((first | refine eIf_t ?_ | refine eIf_f ?_ | refine eGet_i rfl ?_ | refine eReq_i rfl ?_ | refine slLen_e ?_ | refine eIf_cf lt_f ?_ | refine eIf_i (fun _ => ?_) (fun _ => ?_)) <;> (try (conv => lhs; whnf)))
      have hC2 : K (iv (bif dupN ((s.l.map (·.name)).take 0) ((s.l.map (·.name)).drop 0) then 12 else 0)) none fr = some r := ki hC (by simp [errS])
      clear hC h h3
      refine eLoop_l s.l (fun k => [(0, rv (s.enc 4 Aut.enc)), (4, iv k)]) (fun _ => [] :: fr) (fun k => K (iv (bif dupN ((s.l.map (·.name)).take k) ((s.l.map (·.name)).drop k) then 12 else 0)) none fr = some r) (fun k y L hx hk hC hL => ?_) (fun L hC => ?_) _ (by omega) hC2
      · have hx' : (s.l.map (·.name))[k]? = some y.name := by simp [hx]
        rw [drop_succ hx'] at hC
        rw [take_succ hx'] at hL
        conv => lhs; whnf
        repeat' ((first | refine eIf_t ?_ | refine eIf_f ?_ | refine eGet_i rfl ?_ | refine eReq_i rfl ?_ | refine slLen_e ?_ | refine eIf_ct (lt_t hk) ?_ | refine eIf_i (fun _ => ?_) (fun _ => ?_)) <;> (try (conv => lhs; whnf)))
        have hC3 : K (iv (bif hasN y.name (((s.l.map (·.name)).take k).drop 0) || dupN ((s.l.map (·.name)).take k ++ [y.name]) ((s.l.map (·.name)).drop (k + 1)) then 12 else 0)) none fr = some r := hC
        have hlen : (s.l.take k).length = k := by simp; omega
        refine eLoop_l (s.l.take k) (fun j => [(0, rv (s.enc 4 Aut.enc)), (4, iv k), (5, iv j)]) (fun _ => [] :: fr) (fun j => K (iv (bif hasN y.name (((s.l.map (·.name)).take k).drop j) || dupN ((s.l.map (·.name)).take k ++ [y.name]) ((s.l.map (·.name)).drop (k + 1)) then 12 else 0)) none fr = some r) (fun j z L' hz hj hC' hL' => ?_) (fun L' hC' => ?_) _ (by omega) hC3
        · rw [hlen] at hj
          have hz' : s.l[j]? = some z := by rw [List.getElem?_take] at hz; simpa [hj] using hz
          have hz2 : ((s.l.map (·.name)).take k)[j]? = some z.name := by rw [List.getElem?_take]; simp [hj, hz']
          rw [drop_succ hz2] at hC'
          conv => lhs; whnf
          repeat' ((first | refine eIf_t ?_ | refine eIf_f ?_ | refine eGet_i rfl ?_ | refine eReq_i rfl ?_ | refine slLen_e ?_ | refine eIf_ct (lt_t hj) ?_ | refine slIdx_e rfl (Int.natCast_nonneg _) hz' ?_ | refine slIdx_e rfl (Int.natCast_nonneg _) hx ?_ | refine eIf_i (fun _ => ?_) (fun _ => ?_)) <;> (try (conv => lhs; whnf)))
          · rename_i hb
            exact ki hC' (by simp [hasN, eqB, hb])
          · rename_i hb
            rw [wrap_up (by omega)]
            exact hL' (ki hC' (by simp only [hasN, List.any_cons, eqB, hb, Bool.false_or]))
        · rw [hlen] at hC' ⊢
          conv => lhs; whnf
          repeat' ((first | refine eIf_t ?_ | refine eIf_f ?_ | refine eGet_i rfl ?_ | refine eReq_i rfl ?_ | refine slLen_e ?_ | refine eIf_cf lt_f ?_ | refine eIf_i (fun _ => ?_) (fun _ => ?_)) <;> (try (conv => lhs; whnf)))
          rw [wrap_up (by omega)]
          refine hL (ki hC' ?_)
          rw [show ((s.l.map (·.name)).take k).drop k = [] by simp]
          rfl
      · rw [show ((s.l.map (·.name)).drop s.l.length) = [] by simp] at hC
        conv => lhs; whnf
        repeat' ((first | refine eIf_t ?_ | refine eIf_f ?_ | refine eGet_i rfl ?_ | refine eReq_i rfl ?_ | refine slLen_e ?_ | refine eIf_cf lt_f ?_ | refine eIf_i (fun _ => ?_) (fun _ => ?_)) <;> (try (conv => lhs; whnf)))
        exact hC

/-! ### the map of names -/
def keysN : List ByteArray → List ByteArray → List ByteArray
  | ks, [] => ks
  | ks, x :: l => keysN (bif hasN x ks then ks else ks ++ [x]) l
def mapN (ks : List ByteArray) : List (RV × RV) := ks.map fun s => (.str s, .bool true)
theorem hasN_snoc (x y : ByteArray) (l : List ByteArray) : hasN x (l ++ [y]) = (hasN x l || eqB x y) := by simp [hasN]
theorem keysN_dup : ∀ (l seen ks : List ByteArray), (∀ x, hasN x ks = hasN x seen) → (keysN ks l).length ≤ ks.length + l.length ∧ ((keysN ks l).length < ks.length + l.length ↔ dupN seen l = true)
  | [], seen, ks, h => by simp [keysN, dupN]
  | x :: l, seen, ks, h => by
    have hd : dupN seen (x :: l) = (hasN x ks || dupN (seen ++ [x]) l) := by rw [h x]; rfl
    rcases Bool.eq_false_or_eq_true (hasN x ks) with hx | hx
    · have e : keysN ks (x :: l) = keysN ks l := by simp [keysN, hx]
      have h' : ∀ y, hasN y ks = hasN y (seen ++ [x]) := fun y => by
        rw [hasN_snoc, h y]
        cases hy : eqB y x with
        | false => simp
        | true =>
          have : y = x := (eqB_iff y x).1 hy
          subst this
          rw [← h y, hx]; rfl
      obtain ⟨h1, h2⟩ := keysN_dup l (seen ++ [x]) ks h'
      rw [e, hd, hx]
      simp only [List.length_cons, Bool.true_or, iff_true]
      omega
    · have e : keysN ks (x :: l) = keysN (ks ++ [x]) l := by simp [keysN, hx]
      have h' : ∀ y, hasN y (ks ++ [x]) = hasN y (seen ++ [x]) := fun y => by rw [hasN_snoc, hasN_snoc, h y]
      obtain ⟨h1, h2⟩ := keysN_dup l (seen ++ [x]) (ks ++ [x]) h'
      simp only [List.length_append, List.length_cons, List.length_nil] at h1 h2
      rw [e, hd, hx, Bool.false_or, ← h2]
      simp only [List.length_cons]
      omega
theorem findE_mapN {x : ByteArray} : ∀ (ks : List ByteArray) (i : Nat), (hasN x ks = true → ∃ j, findE (.str x) (mapN ks) i = some (some (i + j, .bool true)) ∧ ks[j]? = some x) ∧ (hasN x ks = false → findE (.str x) (mapN ks) i = some none)
  | [], i => ⟨fun h => (by cases h), fun _ => rfl⟩
  | y :: ks, i => by
    obtain ⟨h1, h2⟩ := findE_mapN ks (i + 1)
    have e : sameKey (.str x) (.str y) = some (eqB x y) := by simp only [sameKey, beq_eqB]; rfl
    simp only [mapN, List.map_cons, findE, e]
    cases hb : eqB x y with
    | true =>
      have : x = y := (eqB_iff x y).1 hb
      subst this
      exact ⟨fun _ => ⟨0, rfl, rfl⟩, fun h => (by simp [hasN, hb] at h)⟩
    | false =>
      refine ⟨fun h => ?_, fun h => ?_⟩
      · obtain ⟨j, h3, h4⟩ := h1 (by simpa [hasN, hb] using h)
        refine ⟨j + 1, ?_, by simpa using h4⟩
        rw [show i + (j + 1) = i + 1 + j by omega]
        exact h3
      · exact h2 (by simpa [hasN, hb] using h)
theorem modify_same {ks : List ByteArray} {x : ByteArray} {j : Nat} (h : ks[j]? = some x) : (mapN ks).modify j (fun _ => (.str x, .bool true)) = mapN ks := by
  apply List.ext_getElem?
  intro i
  rw [List.getElem?_modify]
  by_cases e : j = i
  · subst e
    simp [mapN, h]
  · simp [e]
theorem eFind_n {x : ByteArray} {ks : List ByteArray} {A : Nat → RV → Option R} {B : Option R} {r : R} (hA : ∀ j, hasN x ks = true → ks[j]? = some x → A j (.bool true) = some r) (hB : hasN x ks = false → B = some r) : eFind (.str x) (mapN ks) A B = some r := by
  rw [eFind_eq]
  unfold eFind0
  obtain ⟨h1, h2⟩ := findE_mapN (x := x) ks 0
  cases hx : hasN x ks with
  | true =>
    obtain ⟨j, h3, h4⟩ := h1 hx
    rw [h3, Nat.zero_add]
    exact hA j hx h4
  | false => rw [h2 hx]; exact hB hx

theorem s16 {s : Sl Aut} (h : K (iv (checkAllS s.l)) none fr = some r) : (CC (n+15)).fn 16 [rv (s.enc 4 Aut.enc)] fr K = some r := by
  refine cc q16_ok rfl ?_
  conv => lhs; whnf
  repeat' ((first | refine eIf_t ?_ | refine eIf_f ?_ | refine eGet_i rfl ?_ | refine eReq_i rfl ?_ | refine slLen_e ?_ | refine eIf_i (fun _ => ?_) (fun _ => ?_)) <;> (try (conv => lhs; whnf)))
  · rename_i h1
    exact ki h (by simp only [decide_eq_true_eq] at h1; simp [checkAllS, show s.l.length < 1 by omega])
  · rename_i h1 h2
    exact ki h (by simp only [decide_eq_true_eq] at h2; simp [checkAllS, show 8 < s.l.length by omega])
  · rename_i h1 h2
    simp only [decide_eq_false_iff_not] at h1 h2
    have hd : decide ((keysN [] (s.l.map (·.name))).length < s.l.length) = dupN [] (s.l.map (·.name)) := by
      have := (keysN_dup (s.l.map (·.name)) [] [] (fun _ => rfl)).2
      rw [Bool.eq_iff_iff, decide_eq_true_eq, ← this]
      simp
    have h3 : checkAllS s.l = bif errS (s.l.drop 0) != 0 then errS (s.l.drop 0) else bif decide ((keysN [] ((s.l.map (·.name)).drop 0)).length < s.l.length) then 12 else 0 := by
      rw [List.drop_zero, List.drop_zero]
      rw [hd]
      simp only [checkAllS, show ¬ s.l.length < 1 by omega, show ¬ 8 < s.l.length by omega, decide_false, Bool.or_self, cond_false]
    rw [h3] at h
    clear h3 hd
    refine eLoop_i (σ := Nat × List ByteArray) (fun p => [(0, rv (s.enc 4 Aut.enc)), (3, .s (.mp 0 0)), (16, rv (s.enc 4 Aut.enc)), (17, iv s.l.length), (18, iv p.1)]) (fun p => [.map (mapN p.2)] :: fr)
      (fun p => p.1 ≤ s.l.length ∧ K (iv (bif errS (s.l.drop p.1) != 0 then errS (s.l.drop p.1) else bif decide ((keysN p.2 ((s.l.map (·.name)).drop p.1)).length < s.l.length) then 12 else 0)) none fr = some r) (fun p => s.l.length - p.1) (fun p L hC hL => ?_) _ (0, []) ⟨Nat.zero_le _, h⟩ (by show _ - 0 < _; omega)
    obtain ⟨k, ks⟩ := p
    obtain ⟨hk, hC⟩ := hC
    simp only at hk hC hL
    rcases Nat.lt_or_ge k s.l.length with hlt | hge
    · obtain ⟨y, hx⟩ : ∃ y, s.l[k]? = some y := ⟨_, List.getElem?_eq_getElem hlt⟩
      have hx' : (s.l.map (·.name))[k]? = some y.name := by simp [hx]
      rw [drop_succ hx, drop_succ hx'] at hC
      conv => lhs; whnf
      repeat' ((first | refine eIf_t ?_ | refine eIf_f ?_ | refine eGet_i rfl ?_ | refine eReq_i rfl ?_ | refine slLen_e ?_ | refine eIf_ct (lt_t hlt) ?_ | refine slIdx_e rfl (Int.natCast_nonneg _) hx ?_ | refine s50 ?_ | refine eFind_n (x := y.name) (ks := ks) (fun j hj1 hj2 => ?_) (fun hj => ?_) | refine eIf_i (fun _ => ?_) (fun _ => ?_)) <;> (try (conv => lhs; whnf)))
      · rename_i hy
        exact ki hC (by simp [errS, hy])
      · rename_i hy
        have e : (mapN (k, ks).2).modify j (fun _ => (.str y.name, .bool true)) = mapN ks := modify_same hj2
        rw [wrap_up (by omega), e]
        exact hL (k + 1, ks) ⟨hlt, ki hC (by simp [errS, hy, keysN, hj1])⟩ (by show _ - (k + 1) < _; omega)
      · rename_i hy
        have e : mapN (k, ks).2 ++ [(.str y.name, .bool true)] = mapN (ks ++ [y.name]) := by simp [mapN]
        rw [wrap_up (by omega), e]
        exact hL (k + 1, ks ++ [y.name]) ⟨hlt, ki hC (by simp [errS, hy, keysN, hj])⟩ (by show _ - (k + 1) < _; omega)
    · have : k = s.l.length := by omega
      subst this
      rw [List.drop_length, show ((s.l.map (·.name)).drop s.l.length) = [] by simp] at hC
      conv => lhs; whnf
      repeat' ((first | refine eIf_t ?_ | refine eIf_f ?_ | refine eGet_i rfl ?_ | refine eReq_i rfl ?_ | refine slLen_e ?_ | refine eIf_cf lt_f ?_ | refine eIf_i (fun _ => ?_) (fun _ => ?_)) <;> (try (conv => lhs; whnf)))
      · rename_i hd
        have hd' : ks.length < s.l.length := by simpa [mapN] using hd
        exact ki hC (by simp [errS, keysN, hd'])
      · rename_i hd
        have hd' : ¬ ks.length < s.l.length := by simpa [mapN] using hd
        exact ki hC (by simp [errS, keysN, hd'])
end Go.PM.Try

namespace Go.PM.Try
open Go.Proofs
attribute [local irreducible] eIf eReq eGet eNil slLen slRows slIdx slSub slZero slView eFind eLoopN CC Sl.enc
variable {R : Type} [Stops R] [CCW R] {n : Nat} {fr : Frames} {K : PV → Option LB → Frames → Option R} {r : R}
set_option maxRecDepth 8000
set_option linter.unusedSectionVars false

def sizesS (s : Siz) : Bool := betweenS s.a 0 1073741824 && betweenS s.b 0 1073741824 && betweenS s.c 0 1073741824 && betweenS s.d 0 1073741824 && betweenS s.e 0 1073741824 && betweenS s.f 0 1073741824
def pasS (p : Pas) : Bool := nameS p.auth && nameS p.road && betweenS p.minutes 1 10080
def checkTripS (t : Trp) : Int := bif decide (t.passages.l.length < 1) || decide (24 < t.passages.l.length) then 6 else bif sizesS t.sizes && t.passages.l.all pasS then 0 else 2
theorem s18 {t : Trp} (h : K (iv (checkTripS t)) none fr = some r) : (CC (n+6)).fn 18 [gv t.enc] fr K = some r := by
  refine cc q18_ok rfl ?_
  conv => lhs; whnf
  repeat' ((first | refine eIf_t ?_ | refine eIf_f ?_ | refine eGet_i rfl ?_ | refine eReq_i rfl ?_ | refine slLen_e ?_ | refine eIf_i (fun _ => ?_) (fun _ => ?_)) <;> (try (conv => lhs; whnf)))
  · rename_i h1
    exact ki h (by simp only [decide_eq_true_eq] at h1; simp [checkTripS, show t.passages.l.length < 1 by omega])
  · rename_i h1 h2
    exact ki h (by simp only [decide_eq_true_eq] at h2; simp [checkTripS, show 24 < t.passages.l.length by omega])
  rename_i h1 h2
  simp only [decide_eq_false_iff_not] at h1 h2
  have h3 : checkTripS t = bif sizesS t.sizes && t.passages.l.all pasS then 0 else 2 := by
    simp only [checkTripS, show ¬ t.passages.l.length < 1 by omega, show ¬ 24 < t.passages.l.length by omega, decide_false, Bool.or_self, cond_false]
  rw [h3] at h
  clear h3
  refine eLoop_u ?_
  conv => lhs; whnf
  repeat' ((first | refine eIf_t ?_ | refine eIf_f ?_ | refine eGet_i rfl ?_ | refine eReq_i rfl ?_ | refine slLen_e ?_ | refine s52 ?_ | refine eIf_i (fun _ => ?_) (fun _ => ?_)) <;> (try (conv => lhs; whnf)))
  · rename_i hb
    exact ki h (by simp_all [sizesS])
  refine eLoop_u ?_
  conv => lhs; whnf
  repeat' ((first | refine eIf_t ?_ | refine eIf_f ?_ | refine eGet_i rfl ?_ | refine eReq_i rfl ?_ | refine slLen_e ?_ | refine s52 ?_ | refine eIf_i (fun _ => ?_) (fun _ => ?_)) <;> (try (conv => lhs; whnf)))
  · rename_i hb
    exact ki h (by simp_all [sizesS])
  refine eLoop_u ?_
  conv => lhs; whnf
  repeat' ((first | refine eIf_t ?_ | refine eIf_f ?_ | refine eGet_i rfl ?_ | refine eReq_i rfl ?_ | refine slLen_e ?_ | refine s52 ?_ | refine eIf_i (fun _ => ?_) (fun _ => ?_)) <;> (try (conv => lhs; whnf)))
  · rename_i hb
    exact ki h (by simp_all [sizesS])
  refine eLoop_u ?_
  conv => lhs; whnf
  repeat' ((first | refine eIf_t ?_ | refine eIf_f ?_ | refine eGet_i rfl ?_ | refine eReq_i rfl ?_ | refine slLen_e ?_ | refine s52 ?_ | refine eIf_i (fun _ => ?_) (fun _ => ?_)) <;> (try (conv => lhs; whnf)))
  · rename_i hb
    exact ki h (by simp_all [sizesS])
  refine eLoop_u ?_
  conv => lhs; whnf
  repeat' ((first | refine eIf_t ?_ | refine eIf_f ?_ | refine eGet_i rfl ?_ | refine eReq_i rfl ?_ | refine slLen_e ?_ | refine s52 ?_ | refine eIf_i (fun _ => ?_) (fun _ => ?_)) <;> (try (conv => lhs; whnf)))
  · rename_i hb
    exact ki h (by simp_all [sizesS])
  refine eLoop_u ?_
  conv => lhs; whnf
  repeat' ((first | refine eIf_t ?_ | refine eIf_f ?_ | refine eGet_i rfl ?_ | refine eReq_i rfl ?_ | refine slLen_e ?_ | refine s52 ?_ | refine eIf_i (fun _ => ?_) (fun _ => ?_)) <;> (try (conv => lhs; whnf)))
  · rename_i hb
    exact ki h (by simp_all [sizesS])
  refine eLoop_u ?_
  conv => lhs; whnf
  repeat' ((first | refine eIf_t ?_ | refine eIf_f ?_ | refine eGet_i rfl ?_ | refine eReq_i rfl ?_ | refine slLen_e ?_ | refine eIf_i (fun _ => ?_) (fun _ => ?_)) <;> (try (conv => lhs; whnf)))
  rename_i e1 e2 e3 e4 e5 e6
  have h4 : K (iv (bif t.passages.l.all pasS then 0 else 2)) none fr = some r := ki h (by simp_all [sizesS])
  clear h
  refine eLoop_l t.passages.l (fun k => [(27, rv (t.passages.enc 3 Pas.enc)), (28, iv t.passages.l.length), (29, iv k)]) (fun _ => [] :: fr) (fun k => K (iv (bif (t.passages.l.drop k).all pasS then 0 else 2)) none fr = some r) (fun k y L hx hk hC hL => ?_) (fun L hC => ?_) _ (by omega) h4
  · rw [all_drop hx] at hC
    conv => lhs; whnf
    repeat' ((first | refine eIf_t ?_ | refine eIf_f ?_ | refine eGet_i rfl ?_ | refine eReq_i rfl ?_ | refine slLen_e ?_ | refine eIf_ct (lt_t hk) ?_ | refine slIdx_e rfl (Int.natCast_nonneg _) hx ?_ | refine s53 ?_ | refine s52 ?_ | refine eIf_i (fun _ => ?_) (fun _ => ?_)) <;> (try (conv => lhs; whnf)))
    · rename_i g1
      exact ki hC (by simp_all [pasS])
    · rename_i g1 g2
      exact ki hC (by simp_all [pasS])
    · rename_i g1 g2 g3
      exact ki hC (by simp_all [pasS])
    · rename_i g1 g2 g3
      rw [wrap_up (by omega)]
      exact hL (ki hC (by simp_all [pasS]))
  · rw [List.drop_length] at hC
    conv => lhs; whnf
    repeat' ((first | refine eIf_t ?_ | refine eIf_f ?_ | refine eGet_i rfl ?_ | refine eReq_i rfl ?_ | refine slLen_e ?_ | refine eIf_cf lt_f ?_ | refine eIf_i (fun _ => ?_) (fun _ => ?_)) <;> (try (conv => lhs; whnf)))
    exact hC
theorem s19 {t : Trp} (h : K (iv (checkTripS t)) none fr = some r) : (CC (n+2)).fn 19 [gv t.enc] fr K = some r := by
  refine cc q19_ok rfl ?_
  conv => lhs; whnf
  repeat' ((first | refine eIf_t ?_ | refine eIf_f ?_ | refine eGet_i rfl ?_ | refine eReq_i rfl ?_ | refine slLen_e ?_ | refine eIf_i (fun _ => ?_) (fun _ => ?_)) <;> (try (conv => lhs; whnf)))
  · rename_i h1
    exact ki h (by simp only [decide_eq_true_eq] at h1; simp [checkTripS, show t.passages.l.length < 1 by omega])
  · rename_i h1 h2
    exact ki h (by simp only [decide_eq_true_eq] at h2; simp [checkTripS, show 24 < t.passages.l.length by omega])
  rename_i h1 h2
  simp only [decide_eq_false_iff_not] at h1 h2
  have h3 : checkTripS t = bif sizesS t.sizes && t.passages.l.all pasS then 0 else 2 := by
    simp only [checkTripS, show ¬ t.passages.l.length < 1 by omega, show ¬ 24 < t.passages.l.length by omega, decide_false, Bool.or_self, cond_false]
  rw [h3] at h
  clear h3
  refine eLoop_u ?_
  conv => lhs; whnf
  repeat' ((first | refine eIf_t ?_ | refine eIf_f ?_ | refine eGet_i rfl ?_ | refine eReq_i rfl ?_ | refine slLen_e ?_ | refine s54 ?_ | refine eIf_i (fun _ => ?_) (fun _ => ?_)) <;> (try (conv => lhs; whnf)))
  · rename_i hb
    exact ki h (by simp_all [sizesS])
  refine eLoop_u ?_
  conv => lhs; whnf
  repeat' ((first | refine eIf_t ?_ | refine eIf_f ?_ | refine eGet_i rfl ?_ | refine eReq_i rfl ?_ | refine slLen_e ?_ | refine s54 ?_ | refine eIf_i (fun _ => ?_) (fun _ => ?_)) <;> (try (conv => lhs; whnf)))
  · rename_i hb
    exact ki h (by simp_all [sizesS])
  refine eLoop_u ?_
  conv => lhs; whnf
  repeat' ((first | refine eIf_t ?_ | refine eIf_f ?_ | refine eGet_i rfl ?_ | refine eReq_i rfl ?_ | refine slLen_e ?_ | refine s54 ?_ | refine eIf_i (fun _ => ?_) (fun _ => ?_)) <;> (try (conv => lhs; whnf)))
  · rename_i hb
    exact ki h (by simp_all [sizesS])
  refine eLoop_u ?_
  conv => lhs; whnf
  repeat' ((first | refine eIf_t ?_ | refine eIf_f ?_ | refine eGet_i rfl ?_ | refine eReq_i rfl ?_ | refine slLen_e ?_ | refine s54 ?_ | refine eIf_i (fun _ => ?_) (fun _ => ?_)) <;> (try (conv => lhs; whnf)))
  · rename_i hb
    exact ki h (by simp_all [sizesS])
  refine eLoop_u ?_
  conv => lhs; whnf
  repeat' ((first | refine eIf_t ?_ | refine eIf_f ?_ | refine eGet_i rfl ?_ | refine eReq_i rfl ?_ | refine slLen_e ?_ | refine s54 ?_ | refine eIf_i (fun _ => ?_) (fun _ => ?_)) <;> (try (conv => lhs; whnf)))
  · rename_i hb
    exact ki h (by simp_all [sizesS])
  refine eLoop_u ?_
  conv => lhs; whnf
  repeat' ((first | refine eIf_t ?_ | refine eIf_f ?_ | refine eGet_i rfl ?_ | refine eReq_i rfl ?_ | refine slLen_e ?_ | refine s54 ?_ | refine eIf_i (fun _ => ?_) (fun _ => ?_)) <;> (try (conv => lhs; whnf)))
  · rename_i hb
    exact ki h (by simp_all [sizesS])
  refine eLoop_u ?_
  conv => lhs; whnf
  repeat' ((first | refine eIf_t ?_ | refine eIf_f ?_ | refine eGet_i rfl ?_ | refine eReq_i rfl ?_ | refine slLen_e ?_ | refine eIf_i (fun _ => ?_) (fun _ => ?_)) <;> (try (conv => lhs; whnf)))
  rename_i e1 e2 e3 e4 e5 e6
  have h4 : K (iv (bif t.passages.l.all pasS then 0 else 2)) none fr = some r := ki h (by simp_all [sizesS])
  clear h
  refine eLoop_l t.passages.l (fun k => [(1, rv (.vptr t.enc 0)), (4, iv k)]) (fun _ => [] :: fr) (fun k => K (iv (bif (t.passages.l.drop k).all pasS then 0 else 2)) none fr = some r) (fun k y L hx hk hC hL => ?_) (fun L hC => ?_) _ (by omega) h4
  · rw [all_drop hx] at hC
    conv => lhs; whnf
    repeat' ((first | refine eIf_t ?_ | refine eIf_f ?_ | refine eGet_i rfl ?_ | refine eReq_i rfl ?_ | refine slLen_e ?_ | refine eIf_ct (lt_t hk) ?_ | refine slIdx_e rfl (Int.natCast_nonneg _) hx ?_ | refine s55 ?_ | refine s54 ?_ | refine eIf_i (fun _ => ?_) (fun _ => ?_)) <;> (try (conv => lhs; whnf)))
    · rename_i g1
      exact ki hC (by simp_all [pasS])
    · rename_i g1 g2
      exact ki hC (by simp_all [pasS])
    · rename_i g1 g2 g3
      exact ki hC (by simp_all [pasS])
    · rename_i g1 g2 g3
      rw [wrap_up (by omega)]
      exact hL (ki hC (by simp_all [pasS]))
  · rw [List.drop_length] at hC
    conv => lhs; whnf
    repeat' ((first | refine eIf_t ?_ | refine eIf_f ?_ | refine eGet_i rfl ?_ | refine eReq_i rfl ?_ | refine slLen_e ?_ | refine eIf_cf lt_f ?_ | refine eIf_i (fun _ => ?_) (fun _ => ?_)) <;> (try (conv => lhs; whnf)))
    exact hC
end Go.PM.Try

namespace Go.PM.Try
open Go.Proofs
attribute [local irreducible] eIf eReq eGet eNil slLen slRows slIdx slSub slZero slView eFind eLoopN CC Sl.enc
variable {R : Type} [Stops R] [CCW R] {n : Nat} {fr : Frames} {K : PV → Option LB → Frames → Option R} {r : R}
set_option maxRecDepth 8000
set_option linter.unusedSectionVars false

theorem s29 {a : Aut} (h : ∀ b, K (bv b) none fr = some r) : (CC (n+1)).fn 29 [gv a.enc] fr K = some r := by
  refine cc q29_ok rfl ?_
  conv => lhs; whnf
  repeat' ((first | refine eIf_t ?_ | refine eIf_f ?_ | refine eGet_i rfl ?_ | refine eReq_i rfl ?_ | refine slLen_e ?_ | refine eIf_i (fun _ => ?_) (fun _ => ?_)) <;> (try (conv => lhs; whnf)))
  all_goals try (exact h _)
  rename_i h1 h2
  simp only [decide_eq_false_iff_not] at h1 h2
  refine eLoop_l a.rules.l (fun k => [(1, rv (.vptr a.enc 0)), (3, iv k)]) (fun _ => [] :: fr) (fun _ => True) (fun k y L hx hk hC hL => ?_) (fun L hC => ?_) _ (by omega) trivial
  · conv => lhs; whnf
    repeat' ((first | refine eIf_t ?_ | refine eIf_f ?_ | refine eGet_i rfl ?_ | refine eReq_i rfl ?_ | refine slLen_e ?_ | refine eIf_ct (lt_t hk) ?_ | refine slIdx_e rfl (Int.natCast_nonneg _) hx ?_ | refine eIf_i (fun _ => ?_) (fun _ => ?_)) <;> (try (conv => lhs; whnf)))
    all_goals try (exact h _)
    rename_i g1 g2 g3 g4
    simp only [decide_eq_false_iff_not] at g1 g2 g3 g4
    refine eLoop_l y.roads.l (fun k' => [(1, rv (.vptr a.enc 0)), (3, iv k), (4, .s (.ptr 0 0 0 0)), (5, iv k')]) (fun _ => [.box (y.enc.map .ro)] :: fr) (fun _ => True) (fun k' z L' hx' hk' hC' hL' => ?_) (fun L' hC' => ?_) _ (by omega) trivial
    · conv => lhs; whnf
      repeat' ((first | refine eIf_t ?_ | refine eIf_f ?_ | refine eGet_i rfl ?_ | refine eReq_i rfl ?_ | refine slLen_e ?_ | refine eIf_ct (lt_t hk') ?_ | refine slIdx_e rfl (Int.natCast_nonneg _) hx' ?_ | refine eIf_i (fun _ => ?_) (fun _ => ?_)) <;> (try (conv => lhs; whnf)))
      · exact h _
      · rw [wrap_up (by omega)]
        exact hL' trivial
    · conv => lhs; whnf
      repeat' ((first | refine eIf_t ?_ | refine eIf_f ?_ | refine eGet_i rfl ?_ | refine eReq_i rfl ?_ | refine slLen_e ?_ | refine eIf_cf lt_f ?_ | refine eIf_i (fun _ => ?_) (fun _ => ?_)) <;> (try (conv => lhs; whnf)))
      refine eLoop_l y.counts.l (fun k' => [(1, rv (.vptr a.enc 0)), (3, iv k), (4, .s (.ptr 0 0 0 0)), (6, iv k')]) (fun _ => [.box (y.enc.map .ro)] :: fr) (fun _ => True) (fun k' z L' hx' hk' hC' hL' => ?_) (fun L' hC' => ?_) _ (by omega) trivial
      · conv => lhs; whnf
        repeat' ((first | refine eIf_t ?_ | refine eIf_f ?_ | refine eGet_i rfl ?_ | refine eReq_i rfl ?_ | refine slLen_e ?_ | refine eIf_ct (lt_t hk') ?_ | refine slIdx_e rfl (Int.natCast_nonneg _) hx' ?_ | refine eIf_i (fun _ => ?_) (fun _ => ?_)) <;> (try (conv => lhs; whnf)))
        · exact h _
        · rw [wrap_up (by omega)]
          exact hL' trivial
      · conv => lhs; whnf
        repeat' ((first | refine eIf_t ?_ | refine eIf_f ?_ | refine eGet_i rfl ?_ | refine eReq_i rfl ?_ | refine slLen_e ?_ | refine eIf_cf lt_f ?_ | refine eIf_i (fun _ => ?_) (fun _ => ?_)) <;> (try (conv => lhs; whnf)))
        rw [wrap_up (by omega)]
        exact hL trivial
  · conv => lhs; whnf
    repeat' ((first | refine eIf_t ?_ | refine eIf_f ?_ | refine eGet_i rfl ?_ | refine eReq_i rfl ?_ | refine slLen_e ?_ | refine eIf_cf lt_f ?_ | refine eIf_i (fun _ => ?_) (fun _ => ?_)) <;> (try (conv => lhs; whnf)))
    exact h _
theorem s12 {s : Sl Aut} {t : Trp} (h : ∀ b, K (bv b) none fr = some r) : (CC (n+2)).fn 12 [rv (s.enc 4 Aut.enc), gv t.enc] fr K = some r := by
  refine cc q12_ok rfl ?_
  conv => lhs; whnf
  repeat' ((first | refine eIf_t ?_ | refine eIf_f ?_ | refine eGet_i rfl ?_ | refine eReq_i rfl ?_ | refine slLen_e ?_ | refine eIf_i (fun _ => ?_) (fun _ => ?_)) <;> (try (conv => lhs; whnf)))
  all_goals try (exact h _)
  rename_i h1 h2
  simp only [decide_eq_false_iff_not] at h1 h2
  refine eLoop_l s.l (fun k => [(0, rv (s.enc 4 Aut.enc)), (3, rv (.vptr t.enc 0)), (5, iv k)]) (fun _ => [] :: fr) (fun _ => True) (fun k y L hx hk hC hL => ?_) (fun L hC => ?_) _ (by omega) trivial
  · conv => lhs; whnf
    repeat' ((first | refine eIf_t ?_ | refine eIf_f ?_ | refine eGet_i rfl ?_ | refine eReq_i rfl ?_ | refine slLen_e ?_ | refine eIf_ct (lt_t hk) ?_ | refine slIdx_e rfl (Int.natCast_nonneg _) hx ?_ | refine s29 (fun b => ?_) | refine eIf_i (fun _ => ?_) (fun _ => ?_)) <;> (try (conv => lhs; whnf)))
    · exact h _
    · rw [wrap_up (by omega)]
      exact hL trivial
  · conv => lhs; whnf
    repeat' ((first | refine eIf_t ?_ | refine eIf_f ?_ | refine eGet_i rfl ?_ | refine eReq_i rfl ?_ | refine slLen_e ?_ | refine eIf_cf lt_f ?_ | refine eIf_i (fun _ => ?_) (fun _ => ?_)) <;> (try (conv => lhs; whnf)))
    refine eLoop_l t.passages.l (fun k => [(3, rv (.vptr t.enc 0)), (6, iv k)]) (fun _ => [] :: fr) (fun _ => True) (fun k y L hx hk hC hL => ?_) (fun L hC => ?_) _ (by omega) trivial
    · conv => lhs; whnf
      repeat' ((first | refine eIf_t ?_ | refine eIf_f ?_ | refine eGet_i rfl ?_ | refine eReq_i rfl ?_ | refine slLen_e ?_ | refine eIf_ct (lt_t hk) ?_ | refine slIdx_e rfl (Int.natCast_nonneg _) hx ?_ | refine eIf_i (fun _ => ?_) (fun _ => ?_)) <;> (try (conv => lhs; whnf)))
      all_goals try (exact h _)
      rw [wrap_up (by omega)]
      exact hL trivial
    · conv => lhs; whnf
      repeat' ((first | refine eIf_t ?_ | refine eIf_f ?_ | refine eGet_i rfl ?_ | refine eReq_i rfl ?_ | refine slLen_e ?_ | refine eIf_cf lt_f ?_ | refine eIf_i (fun _ => ?_) (fun _ => ?_)) <;> (try (conv => lhs; whnf)))
      exact h _
end Go.PM.Try

namespace Go.PM.Try
open Go.Proofs
attribute [local irreducible] eIf eReq eGet eNil slLen slRows slIdx slSub slZero slView eFind eLoopN CC Sl.enc
variable {R : Type} [Stops R] [CCW R] {n : Nat} {fr : Frames} {K : PV → Option LB → Frames → Option R} {r : R}
set_option maxRecDepth 8000
set_option linter.unusedSectionVars false

theorem eqB_comm (a b : ByteArray) : eqB a b = eqB b a := by
  rw [Bool.eq_iff_iff]
  exact ⟨fun h => (eqB_iff b a).2 ((eqB_iff a b).1 h).symm, fun h => (eqB_iff a b).2 ((eqB_iff b a).1 h).symm⟩
def Siz.at (s : Siz) (k : Int) : Int := match k.toNat with
  | 0 => s.a
  | 1 => s.b
  | 2 => s.c
  | 3 => s.d
  | 4 => s.e
  | _ => s.f
theorem Siz.at_get {s : Siz} {k : Int} (h : 0 ≤ k) (h' : k ≤ 5) (t : List RV) : ((RV.int .i64 s.a) :: (RV.int .i64 s.b) :: (RV.int .i64 s.c) :: (RV.int .i64 s.d) :: (RV.int .i64 s.e) :: (RV.int .i64 s.f) :: t)[k.toNat]? = some (.int .i64 (s.at k)) := by
  obtain ⟨m, rfl⟩ : ∃ m : Nat, k = m := ⟨k.toNat, by omega⟩
  have hm : m ≤ 5 := by omega
  rw [Int.toNat_natCast]
  unfold Siz.at
  rw [Int.toNat_natCast]
  match m, hm with
  | 0, _ | 1, _ | 2, _ | 3, _ | 4, _ | 5, _ => rfl
def whenHolds (s : Siz) (w : Whn) : Bool := decide (s.at w.size < w.least)
def isForS (x : Rul) (road : ByteArray) (s : Siz) : Bool := (decide (x.roads.l.length = 0) || x.roads.l.any (eqB road)) && !(x.whens.l.any (whenHolds s))

theorem s111 {s : Sl ByteArray} (hs : s.l.length < 1000000) {x : ByteArray} (h : K (iv (idxS (eqB x) s.l 0)) none fr = some r) : (CC (n+1)).fn 111 [rv (s.enc 1 encS), sv x] fr K = some r := by
  refine cc q111_ok rfl ?_
  conv => lhs; whnf
  repeat' ((first | refine eIf_t ?_ | refine eIf_f ?_ | refine eGet_i rfl ?_ | refine eReq_i rfl ?_ | refine slLen_e ?_ | refine eIf_i (fun _ => ?_) (fun _ => ?_)) <;> (try (conv => lhs; whnf)))
  refine eLoop_l s.l (fun k => [(0, rv (s.enc 1 encS)), (1, sv x), (7, iv s.l.length), (8, iv k)]) (fun _ => [] :: fr) (fun k => K (iv (idxS (eqB x) (s.l.drop k) k)) none fr = some r) (fun k y L hx hk hC hL => ?_) (fun L hC => ?_) _ (by omega) h
  · rw [drop_idx hx] at hC
    conv => lhs; whnf
    repeat' ((first | refine eIf_t ?_ | refine eIf_f ?_ | refine eGet_i rfl ?_ | refine eReq_i rfl ?_ | refine slLen_e ?_ | refine eIf_ct (lt_t hk) ?_ | refine slIdx_e rfl (Int.natCast_nonneg _) hx ?_ | refine eIf_i (fun _ => ?_) (fun _ => ?_)) <;> (try (conv => lhs; whnf)))
    · rename_i hpx
      rw [show eqB x y = true from hpx] at hC
      exact hC
    · rename_i hpx
      rw [show eqB x y = false from hpx] at hC
      rw [wrap_up (by omega)]
      exact hL hC
  · rw [List.drop_length] at hC
    conv => lhs; whnf
    repeat' ((first | refine eIf_t ?_ | refine eIf_f ?_ | refine eGet_i rfl ?_ | refine eReq_i rfl ?_ | refine slLen_e ?_ | refine eIf_cf lt_f ?_ | refine eIf_i (fun _ => ?_) (fun _ => ?_)) <;> (try (conv => lhs; whnf)))
    exact hC
theorem s92 {s : Sl ByteArray} (hs : s.l.length < 1000000) {x : ByteArray} (h : K (bv (s.l.any (eqB x))) none fr = some r) : (CC (n+2)).fn 92 [rv (s.enc 1 encS), sv x] fr K = some r := by
  refine cc q92_ok rfl ?_
  conv => lhs; whnf
  repeat' ((first | refine eIf_t ?_ | refine eIf_f ?_ | refine eGet_i rfl ?_ | refine eReq_i rfl ?_ | refine slLen_e ?_ | refine s111 hs ?_ | refine eIf_i (fun _ => ?_) (fun _ => ?_)) <;> (try (conv => lhs; whnf)))
  exact kb h (idxS_nonneg (eqB x) s.l 0)
theorem s105 {s : Siz} {w : Whn} (h0 : 0 ≤ w.size) (h5 : w.size ≤ 5) (h : K (bv (whenHolds s w)) none fr = some r) : (CC (n+1)).fn 105 [gv w.enc, rv (.vptr s.enc 0)] fr K = some r := by
  refine cc q105_ok rfl ?_
  conv => lhs; whnf
  repeat' ((first | refine eIf_t ?_ | refine eIf_f ?_ | refine eGet_i rfl ?_ | refine eReq_i rfl ?_ | refine slLen_e ?_ | refine eReq_i (by simp; omega) ?_ | refine eGet_i (show _ = some (RV.int .i64 (s.at w.size)) by rw [show 0 + w.size.toNat * 1 = w.size.toNat by omega]; exact Siz.at_get h0 h5 []) ?_ | refine eIf_i (fun _ => ?_) (fun _ => ?_)) <;> (try (conv => lhs; whnf)))
  exact h
/-- What a checked rule is known by. -/
structure RulOK (x : Rul) : Prop where
  roads : x.roads.l.length ≤ 16
  whens : x.whens.l.length ≤ 6
  sizes : ∀ w ∈ x.whens.l, 0 ≤ w.size ∧ w.size ≤ 5
theorem RulOK.of {x : Rul} (h : ruleS x = true) : RulOK x := by
  simp only [ruleS, Bool.and_eq_true, decide_eq_true_eq, List.all_eq_true] at h
  refine ⟨by omega, by omega, fun w hw => ?_⟩
  have := h.1.2 w hw
  simp only [whenS, Bool.and_eq_true, decide_eq_true_eq] at this
  omega
theorem s79 {x : Rul} {road : ByteArray} {s : Siz} (hx : RulOK x) (h : K (bv (isForS x road s)) none fr = some r) : (CC (n+4)).fn 79 [gv x.enc, sv road, gv s.enc] fr K = some r := by
  refine cc q79_ok rfl ?_
  conv => lhs; whnf
  repeat' ((first | refine eIf_t ?_ | refine eIf_f ?_ | refine eGet_i rfl ?_ | refine eReq_i rfl ?_ | refine slLen_e ?_ | refine s92 (by have := hx.roads; omega) ?_ | refine s104 (by have := hx.whens; omega) (p := whenHolds s) (fun w hw K r h => s105 (hx.sizes w hw).1 (hx.sizes w hw).2 h) ?_ | refine eIf_i (fun _ => ?_) (fun _ => ?_)) <;> (try (conv => lhs; whnf)))
  · rename_i h1
    have h1' : x.roads.l.length = 0 := by simpa using h1
    exact kb h (by simp [isForS, h1'])
  · rename_i h1 h2
    exact kb h (by simp [isForS, h2])
  · rename_i h1 h2
    have h1' : ¬ x.roads.l.length = 0 := by simpa using h1
    exact kb h (by simp only [isForS, h1', h2, decide_false, Bool.or_self, Bool.false_and])
theorem any_comm (road : ByteArray) (l : List ByteArray) : (l.any fun y => eqB y road) = l.any (eqB road) := by
  congr 1
  funext y
  exact eqB_comm y road
theorem s81 {x : Rul} {t : Trp} {i : Nat} {p : Pas} (hx : RulOK x) (hp : t.passages.l[i]? = some p) (h : K (bv (isForS x p.road t.sizes)) none fr = some r) : (CC (n+1)).fn 81 [gv x.enc, gv t.enc, iv i] fr K = some r := by
  refine cc q81_ok rfl ?_
  conv => lhs; whnf
  repeat' ((first | refine eIf_t ?_ | refine eIf_f ?_ | refine eGet_i rfl ?_ | refine eReq_i rfl ?_ | refine slLen_e ?_ | refine eIf_i (fun _ => ?_) (fun _ => ?_)) <;> (try (conv => lhs; whnf)))
  have hr := hx.roads
  have hw := hx.whens
  refine eLoop_i (σ := Nat × Bool) (fun q => [(2, iv i), (3, rv (.vptr x.enc 0)), (4, rv (.vptr t.enc 0)), (7, bv q.2), (8, iv q.1)]) (fun _ => [] :: fr)
    (fun q => q.1 ≤ x.roads.l.length ∧ q.2 = (decide (x.roads.l.length = 0) || (x.roads.l.take q.1).any fun y => eqB y p.road)) (fun q => x.roads.l.length - q.1) (fun q L hC hL => ?_) _ (0, (x.roads.l.length : Int) == 0) ⟨Nat.zero_le _, by simp only [List.take_zero, List.any_nil, Bool.or_false]; rw [Bool.eq_iff_iff]; simp⟩ (by show _ - 0 < _; omega)
  obtain ⟨k, b⟩ := q
  obtain ⟨hk, hb⟩ := hC
  simp only at hk hb hL
  rcases Nat.lt_or_ge k x.roads.l.length with hlt | hge
  · obtain ⟨y, hy⟩ : ∃ y, x.roads.l[k]? = some y := ⟨_, List.getElem?_eq_getElem hlt⟩
    have hs : ((x.roads.l.take (k + 1)).any fun y => eqB y p.road) = (((x.roads.l.take k).any fun y => eqB y p.road) || eqB y p.road) := by rw [take_succ hy]; simp
    conv => lhs; whnf
    repeat' ((first | refine eIf_t ?_ | refine eIf_f ?_ | refine eGet_i rfl ?_ | refine eReq_i rfl ?_ | refine slLen_e ?_ | refine eIf_ct (lt_t hlt) ?_ | refine slIdx_e rfl (Int.natCast_nonneg _) hy ?_ | refine slIdx_e rfl (Int.natCast_nonneg _) hp ?_ | refine eIf_i (fun _ => ?_) (fun _ => ?_)) <;> (try (conv => lhs; whnf)))
    · rename_i hbt
      rw [wrap_up (by omega)]
      refine hL (k + 1, true) ⟨hlt, ?_⟩ (by show _ - (k + 1) < _; omega)
      show true = _
      have hbt' : b = true := hbt
      rw [hs, ← Bool.or_assoc, ← hb, hbt']; rfl
    · rename_i hbf
      rw [wrap_up (by omega)]
      refine hL (k + 1, eqB y p.road) ⟨hlt, ?_⟩ (by show _ - (k + 1) < _; omega)
      show eqB y p.road = _
      have hbf' : b = false := hbf
      rw [hs, ← Bool.or_assoc, ← hb, hbf']; rfl
  · have : k = x.roads.l.length := by omega
    subst this
    have hb' : b = (decide (x.roads.l.length = 0) || x.roads.l.any (eqB p.road)) := by rw [hb, List.take_length, any_comm]
    conv => lhs; whnf
    repeat' ((first | refine eIf_t ?_ | refine eIf_f ?_ | refine eGet_i rfl ?_ | refine eReq_i rfl ?_ | refine slLen_e ?_ | refine eIf_cf lt_f ?_ | refine eIf_i (fun _ => ?_) (fun _ => ?_)) <;> (try (conv => lhs; whnf)))
    have h' : K (bv (b && !((x.whens.l.drop 0).any (whenHolds t.sizes)))) none fr = some r := kb h (by rw [hb']; rfl)
    clear h hL
    refine eLoop_l x.whens.l (fun k => [(3, rv (.vptr x.enc 0)), (4, rv (.vptr t.enc 0)), (7, bv b), (9, iv k)]) (fun _ => [] :: fr) (fun k => K (bv (b && !((x.whens.l.drop k).any (whenHolds t.sizes)))) none fr = some r) (fun k w L hw' hk hC hL => ?_) (fun L hC => ?_) _ (by omega) h'
    · rw [any_drop hw'] at hC
      obtain ⟨h0, h5⟩ := hx.sizes w (List.mem_of_getElem? hw')
      conv => lhs; whnf
      repeat' ((first | refine eIf_t ?_ | refine eIf_f ?_ | refine eGet_i rfl ?_ | refine eReq_i rfl ?_ | refine slLen_e ?_ | refine eIf_ct (lt_t hk) ?_ | refine slIdx_e rfl (Int.natCast_nonneg _) hw' ?_ | refine eReq_i (by simp; omega) ?_ | refine eGet_i (show _ = some (RV.int .i64 (t.sizes.at w.size)) by rw [show 0 + w.size.toNat * 1 = w.size.toNat by omega]; exact Siz.at_get h0 h5 _) ?_ | refine eIf_i (fun _ => ?_) (fun _ => ?_)) <;> (try (conv => lhs; whnf)))
      · rename_i g
        exact kb hC (by rw [show whenHolds t.sizes w = true from g]; simp)
      · rename_i g
        rw [show whenHolds t.sizes w = false from g] at hC
        rw [wrap_up (by omega)]
        exact hL hC
    · rw [List.drop_length] at hC
      conv => lhs; whnf
      repeat' ((first | refine eIf_t ?_ | refine eIf_f ?_ | refine eGet_i rfl ?_ | refine eReq_i rfl ?_ | refine slLen_e ?_ | refine eIf_cf lt_f ?_ | refine eIf_i (fun _ => ?_) (fun _ => ?_)) <;> (try (conv => lhs; whnf)))
      exact kb hC (by simp)
end Go.PM.Try

namespace Go.PM.Try
open Go.Proofs
attribute [local irreducible] eIf eReq eGet eNil slLen slRows slIdx slSub slZero slView eFind eLoopN CC Sl.enc
variable {R : Type} [Stops R] [CCW R] {n : Nat} {fr : Frames} {K : PV → Option LB → Frames → Option R} {r : R}
set_option maxRecDepth 8000
set_option linter.unusedSectionVars false

def authS (l : List Aut) (name : ByteArray) : Int := idxS (fun a => eqB a.name name) l 0
theorem s78 {a : Aut} {p : Pas} (h : K (bv (eqB a.name p.auth)) none fr = some r) : (CC (n+1)).fn 78 [gv a.enc, rv (.vptr p.enc 0)] fr K = some r := by
  refine cc q78_ok rfl ?_
  conv => lhs; whnf
  repeat' ((first | refine eIf_t ?_ | refine eIf_f ?_ | refine eGet_i rfl ?_ | refine eReq_i rfl ?_ | refine slLen_e ?_ | refine eIf_i (fun _ => ?_) (fun _ => ?_)) <;> (try (conv => lhs; whnf)))
  exact h
theorem s80 {s : Sl Aut} (hs : s.l.length < 1000000) {x : ByteArray} (h : K (iv (authS s.l x)) none fr = some r) : (CC (n+1)).fn 80 [rv (s.enc 4 Aut.enc), sv x] fr K = some r := by
  refine cc q80_ok rfl ?_
  conv => lhs; whnf
  repeat' ((first | refine eIf_t ?_ | refine eIf_f ?_ | refine eGet_i rfl ?_ | refine eReq_i rfl ?_ | refine slLen_e ?_ | refine eIf_i (fun _ => ?_) (fun _ => ?_)) <;> (try (conv => lhs; whnf)))
  refine eLoop_l s.l (fun k => [(0, rv (s.enc 4 Aut.enc)), (1, sv x), (5, iv k)]) (fun _ => [] :: fr) (fun k => K (iv (idxS (fun a => eqB a.name x) (s.l.drop k) k)) none fr = some r) (fun k y L hx hk hC hL => ?_) (fun L hC => ?_) _ (by omega) h
  · rw [drop_idx hx] at hC
    conv => lhs; whnf
    repeat' ((first | refine eIf_t ?_ | refine eIf_f ?_ | refine eGet_i rfl ?_ | refine eReq_i rfl ?_ | refine slLen_e ?_ | refine eIf_ct (lt_t hk) ?_ | refine slIdx_e rfl (Int.natCast_nonneg _) hx ?_ | refine eIf_i (fun _ => ?_) (fun _ => ?_)) <;> (try (conv => lhs; whnf)))
    · rename_i hpx
      rw [show eqB y.name x = true from hpx] at hC
      exact hC
    · rename_i hpx
      rw [show eqB y.name x = false from hpx] at hC
      rw [wrap_up (by omega)]
      exact hL hC
  · rw [List.drop_length] at hC
    conv => lhs; whnf
    repeat' ((first | refine eIf_t ?_ | refine eIf_f ?_ | refine eGet_i rfl ?_ | refine eReq_i rfl ?_ | refine slLen_e ?_ | refine eIf_cf lt_f ?_ | refine eIf_i (fun _ => ?_) (fun _ => ?_)) <;> (try (conv => lhs; whnf)))
    exact hC

def beginS (l : List Aut) (t : Trp) : Int :=
  bif checkAllS l != 0 then checkAllS l else bif checkTripS t != 0 then checkTripS t else bif t.passages.l.any (fun p => decide (authS l p.auth < 0)) then 5 else 0
theorem checkAllS_ok {l : List Aut} (h : checkAllS l = 0) : 1 ≤ l.length ∧ l.length ≤ 8 ∧ ∀ a ∈ l, checkS a = 0 := by
  have key : ∀ l : List Aut, errS l = 0 → ∀ a ∈ l, checkS a = 0 := by
    intro l
    induction l with
    | nil => intro _ a ha; cases ha
    | cons b l ih =>
      intro h a ha
      by_cases hb : checkS b = 0
      · have h' : errS l = 0 := by simpa [errS, hb] using h
        rcases List.mem_cons.1 ha with rfl | ha
        · exact hb
        · exact ih h' a ha
      · have e : (checkS b != 0) = true := by simpa using hb
        simp only [errS, e, cond_true] at h
        exact absurd h hb
  unfold checkAllS at h
  by_cases h1 : l.length < 1 ∨ 8 < l.length
  · rcases h1 with h1 | h1 <;> simp [h1] at h
  · have h2 : 1 ≤ l.length ∧ l.length ≤ 8 := by omega
    refine ⟨h2.1, h2.2, key l ?_⟩
    have e : (decide (l.length < 1) || decide (8 < l.length)) = false := Bool.or_eq_false_iff.2 ⟨decide_eq_false (by omega), decide_eq_false (by omega)⟩
    rw [e] at h
    by_cases h3 : errS l = 0
    · exact h3
    · have e2 : (errS l != 0) = true := by simpa using h3
      simp only [e2, cond_true, cond_false] at h
      exact absurd h h3
theorem checkTripS_ok {t : Trp} (h : checkTripS t = 0) : 1 ≤ t.passages.l.length ∧ t.passages.l.length ≤ 24 ∧ sizesS t.sizes = true ∧ t.passages.l.all pasS = true := by
  unfold checkTripS at h
  by_cases h1 : t.passages.l.length < 1 ∨ 24 < t.passages.l.length
  · rcases h1 with h1 | h1 <;> simp [h1] at h
  · have e : (decide (t.passages.l.length < 1) || decide (24 < t.passages.l.length)) = false := Bool.or_eq_false_iff.2 ⟨decide_eq_false (by omega), decide_eq_false (by omega)⟩
    rw [e] at h
    have h2 : (sizesS t.sizes && t.passages.l.all pasS) = true := by
      cases hc : (sizesS t.sizes && t.passages.l.all pasS) with
      | true => rfl
      | false => rw [hc] at h; cases h
    simp only [Bool.and_eq_true] at h2
    exact ⟨by omega, by omega, h2.1, h2.2⟩
theorem s48 {s : Sl Aut} {t : Trp} (h : K (iv (beginS s.l t)) none fr = some r) : (CC (n+13)).fn 48 [rv (s.enc 4 Aut.enc), gv t.enc] fr K = some r := by
  refine cc q48_ok rfl ?_
  conv => lhs; whnf
  repeat' ((first | refine eIf_t ?_ | refine eIf_f ?_ | refine eGet_i rfl ?_ | refine eReq_i rfl ?_ | refine slLen_e ?_ | refine s17 ?_ | refine s19 ?_ | refine eIf_i (fun _ => ?_) (fun _ => ?_)) <;> (try (conv => lhs; whnf)))
  · rename_i h1
    exact ki h (by simp only [beginS, h1, cond_true])
  · rename_i h1 h2
    exact ki h (by simp only [beginS, h1, h2, cond_true, cond_false])
  rename_i h1 h2
  have g1 : checkAllS s.l = 0 := by simpa using h1
  have g2 : checkTripS t = 0 := by simpa using h2
  obtain ⟨_, a2, _⟩ := checkAllS_ok g1
  obtain ⟨_, b2, _⟩ := checkTripS_ok g2
  have h3 : K (iv (bif (t.passages.l.drop 0).any (fun p => decide (authS s.l p.auth < 0)) then 5 else 0)) none fr = some r := ki h (by simp only [beginS, h1, h2, cond_false, List.drop_zero])
  clear h
  refine eLoop_l t.passages.l (fun k => [(0, rv (s.enc 4 Aut.enc)), (3, rv (.vptr t.enc 0)), (5, iv k)]) (fun _ => [] :: fr) (fun k => K (iv (bif (t.passages.l.drop k).any (fun p => decide (authS s.l p.auth < 0)) then 5 else 0)) none fr = some r) (fun k y L hx hk hC hL => ?_) (fun L hC => ?_) _ (by omega) h3
  · rw [any_drop hx] at hC
    conv => lhs; whnf
    repeat' ((first | refine eIf_t ?_ | refine eIf_f ?_ | refine eGet_i rfl ?_ | refine eReq_i rfl ?_ | refine slLen_e ?_ | refine eIf_ct (lt_t hk) ?_ | refine slIdx_e rfl (Int.natCast_nonneg _) hx ?_ | refine s80 (by omega) ?_ | refine eIf_i (fun _ => ?_) (fun _ => ?_)) <;> (try (conv => lhs; whnf)))
    · rename_i hy
      rw [hy] at hC
      exact hC
    · rename_i hy
      rw [hy] at hC
      rw [wrap_up (by omega)]
      exact hL hC
  · rw [List.drop_length] at hC
    conv => lhs; whnf
    repeat' ((first | refine eIf_t ?_ | refine eIf_f ?_ | refine eGet_i rfl ?_ | refine eReq_i rfl ?_ | refine slLen_e ?_ | refine eIf_cf lt_f ?_ | refine eIf_i (fun _ => ?_) (fun _ => ?_)) <;> (try (conv => lhs; whnf)))
    exact hC
end Go.PM.Try

namespace Go.PM.Try
open Go.Proofs
attribute [local irreducible] eIf eReq eGet eNil slLen slRows slIdx slSub slZero slView eFind eLoopN CC Sl.enc
variable {R : Type} [Stops R] [CCW R] {n : Nat} {fr : Frames} {K : PV → Option LB → Frames → Option R} {r : R}
set_option maxRecDepth 8000
set_option linter.unusedSectionVars false

def liesS (x s0 s1 : Int) : Bool := bif decide (s0 < s1) then decide (s0 ≤ x) && decide (x < s1) else decide (s0 ≤ x) || decide (x < s1)
theorem liesS_lt {x a b : Int} (h : a < b) : liesS x a b = (decide (a ≤ x) && decide (x < b)) := by simp only [liesS, decide_eq_true h, cond_true]
theorem liesS_ge {x a b : Int} (h : ¬ a < b) : liesS x a b = (decide (a ≤ x) || decide (x < b)) := by simp only [liesS, decide_eq_false h, cond_false]
theorem s110 {x a b : Int} (ha : 0 ≤ a) (hb : b ≤ 1440) (h : K (bv (liesS x a b)) none fr = some r) : (CC (n+2)).fn 110 [iv x, gv [.int .i64 a, .int .i64 b]] fr K = some r := by
  refine cc q110_ok rfl ?_
  conv => lhs; whnf
  repeat' ((first | refine eIf_t ?_ | refine eIf_f ?_ | refine eGet_i rfl ?_ | refine eReq_i rfl ?_ | refine slLen_e ?_ | refine s52 ?_ | refine eIf_i (fun _ => ?_) (fun _ => ?_)) <;> (try (conv => lhs; whnf)))
  · rename_i h1
    have h1' : a < b := by simpa using h1
    rw [wrap_id (by omega) (by omega)]
    exact kb h (by rw [liesS_lt h1', betweenS, Bool.eq_iff_iff]; simp only [Bool.and_eq_true, decide_eq_true_eq]; omega)
  · rename_i h1 h2
    have h1' : ¬ a < b := by simpa using h1
    exact kb h (by rw [liesS_ge h1', show decide (a ≤ x) = true from h2]; rfl)
  · rename_i h1 h2
    have h1' : ¬ a < b := by simpa using h1
    exact kb h (by rw [liesS_ge h1', show decide (a ≤ x) = false from h2]; rfl)
theorem s68 {x a b : Int} (h : K (bv (liesS x a b)) none fr = some r) : (CC (n+1)).fn 68 [iv x, gv [.int .i64 a, .int .i64 b]] fr K = some r := by
  refine cc q68_ok rfl ?_
  conv => lhs; whnf
  repeat' ((first | refine eIf_t ?_ | refine eIf_f ?_ | refine eGet_i rfl ?_ | refine eReq_i rfl ?_ | refine slLen_e ?_ | refine eIf_i (fun _ => ?_) (fun _ => ?_)) <;> (try (conv => lhs; whnf)))
  · rename_i h1 h2
    have h1' : a < b := by simpa using h1
    exact kb h (by rw [liesS_lt h1', show decide (a ≤ x) = true from h2]; rfl)
  · rename_i h1 h2
    have h1' : a < b := by simpa using h1
    exact kb h (by rw [liesS_lt h1', show decide (a ≤ x) = false from h2]; rfl)
  · rename_i h1 h2
    have h1' : ¬ a < b := by simpa using h1
    exact kb h (by rw [liesS_ge h1', show decide (a ≤ x) = true from h2]; rfl)
  · rename_i h1 h2
    have h1' : ¬ a < b := by simpa using h1
    exact kb h (by rw [liesS_ge h1', show decide (a ≤ x) = false from h2]; rfl)
theorem tmB {d m : Int} (hd : 0 ≤ d) : (!decide (d.tmod m < 0)) = true := by
  have := Int.tmod_nonneg m hd
  simp; omega
/-- What a checked rule's times are known by. -/
structure RulT (x : Rul) : Prop where
  d0 : 0 ≤ x.days
  d1 : x.days ≤ 127
  h0 : 0 ≤ x.h0
  h1 : x.h1 ≤ 1440
  s0 : 0 ≤ x.s0
  s1 : x.s1 ≤ 1440
def dayBit (days d : Int) : Bool := days / 2 ^ (d % 7).toNat % 2 == 1
def dayS (x : Rul) (d : Int) : Bool := !x.forbid && dayBit x.days d && liesS (d % 365) x.s0 x.s1
theorem bitF : ∀ (k : Fin 128) (m : Fin 7), (back IntKind.i64 (BitVec.ofInt IntKind.i64.bits (k.val : Int) &&& BitVec.ofInt IntKind.i64.bits (IntKind.i64.wrap (1 * 2 ^ min m.val IntKind.i64.bits))) != 0) = ((k.val : Int) / 2 ^ m.val % 2 == 1) := by decide +kernel
theorem bitG : ∀ (k : Fin 128) (m : Fin 7), ((((k.val : Int).fdiv (2 ^ min (IntKind.u64.wrap (m.val : Int)).toNat IntKind.i64.bits)).tmod 2) == 1) = ((k.val : Int) / 2 ^ m.val % 2 == 1) := by decide +kernel
theorem u64F : ∀ m : Fin 7, (!decide (IntKind.u64.wrap (m.val : Int) < 0)) = true := by decide +kernel
theorem modOf {d : Int} (hd : 0 ≤ d) : ∃ m : Fin 7, d.tmod 7 = (m.val : Int) ∧ (d % 7).toNat = m.val := by
  have h1 : d.tmod 7 = d % 7 := Int.tmod_eq_emod_of_nonneg hd
  have h2 := Int.emod_nonneg d (show (7 : Int) ≠ 0 by omega)
  have h3 := Int.emod_lt_of_pos d (show (0 : Int) < 7 by omega)
  exact ⟨⟨(d % 7).toNat, by omega⟩, by rw [h1]; simp; omega, rfl⟩
theorem s90 {x : Rul} {d : Int} (ht : RulT x) (hd : 0 ≤ d) (h : K (bv (dayS x d)) none fr = some r) : (CC (n+3)).fn 90 [gv x.enc, iv d] fr K = some r := by
  refine cc q90_ok rfl ?_
  obtain ⟨m, hm1, hm2⟩ := modOf hd
  have hbit : (back IntKind.i64 (BitVec.ofInt IntKind.i64.bits x.days &&& BitVec.ofInt IntKind.i64.bits (IntKind.i64.wrap (1 * 2 ^ min (d.tmod 7).toNat IntKind.i64.bits))) != 0) = dayBit x.days d := by
    have h0 := ht.d0; have h1 := ht.d1
    have := bitF ⟨x.days.toNat, by omega⟩ m
    simp only [show ((x.days.toNat : Nat) : Int) = x.days by omega] at this
    rw [hm1, Int.toNat_natCast, dayBit, hm2]
    exact this
  have h365 : d.tmod 365 = d % 365 := Int.tmod_eq_emod_of_nonneg hd
  conv => lhs; whnf
  repeat' ((first | refine eIf_t ?_ | refine eIf_f ?_ | refine eGet_i rfl ?_ | refine eReq_i rfl ?_ | refine slLen_e ?_ | refine eReq_i (tmB hd) ?_ | refine s110 ht.s0 ht.s1 ?_ | refine eIf_i (fun _ => ?_) (fun _ => ?_)) <;> (try (conv => lhs; whnf)))
  · rename_i h1 h2
    rw [hbit] at h2
    exact kb h (by rw [h365, dayS, h1, h2]; rfl)
  · rename_i h1 h2
    rw [hbit] at h2
    exact kb h (by rw [dayS, h1, h2]; rfl)
  · rename_i h1
    exact kb h (by rw [dayS, h1]; rfl)
theorem s91 {x : Rul} {d : Int} (ht : RulT x) (hd : 0 ≤ d) (h : K (bv (dayS x d)) none fr = some r) : (CC (n+3)).fn 91 [gv x.enc, iv d] fr K = some r := by
  refine cc q91_ok rfl ?_
  obtain ⟨m, hm1, hm2⟩ := modOf hd
  have hw : (!decide (IntKind.u64.wrap (d.tmod 7) < 0)) = true := by
    rw [hm1]
    exact u64F m
  have hbit : (((x.days.fdiv (2 ^ min (IntKind.u64.wrap (d.tmod 7)).toNat IntKind.i64.bits)).tmod 2) == 1) = dayBit x.days d := by
    have h0 := ht.d0; have h1 := ht.d1
    have := bitG ⟨x.days.toNat, by omega⟩ m
    simp only [show ((x.days.toNat : Nat) : Int) = x.days by omega] at this
    rw [hm1, dayBit, hm2]
    exact this
  have h365 : d.tmod 365 = d % 365 := Int.tmod_eq_emod_of_nonneg hd
  conv => lhs; whnf
  repeat' ((first | refine eIf_t ?_ | refine eIf_f ?_ | refine eGet_i rfl ?_ | refine eReq_i rfl ?_ | refine slLen_e ?_ | refine eReq_i hw ?_ | refine s68 ?_ | refine eIf_i (fun _ => ?_) (fun _ => ?_)) <;> (try (conv => lhs; whnf)))
  · rename_i h1 h2
    rw [hbit] at h2
    exact kb h (by rw [h365, dayS, h1, h2]; rfl)
  · rename_i h1 h2
    rw [hbit] at h2
    exact kb h (by rw [dayS, h1, h2]; rfl)
  · rename_i h1
    exact kb h (by rw [dayS, h1]; rfl)

def allowsS (x : Rul) (at_ : Int) : Bool := dayS x (at_ / 1440) && liesS (at_ % 1440) x.h0 x.h1
theorem s99 {x : Rul} {d : Int} (ht : RulT x) (hd : 0 ≤ d) (hd' : d < 4611686018427387904) (h : K (bv (allowsS x d)) none fr = some r) : (CC (n+4)).fn 99 [gv x.enc, iv d] fr K = some r := by
  refine cc q99_ok rfl ?_
  have hq : IntKind.wrap .i64 (d.tdiv 1440) = d / 1440 := by rw [Int.tdiv_eq_ediv_of_nonneg hd, wrap_id (by omega) (by omega)]
  have hm : d.tmod 1440 = d % 1440 := Int.tmod_eq_emod_of_nonneg hd
  conv => lhs; whnf
  repeat' ((first | refine eIf_t ?_ | refine eIf_f ?_ | refine eGet_i rfl ?_ | refine eReq_i rfl ?_ | refine slLen_e ?_ | refine s90 ht (show 0 ≤ IntKind.wrap .i64 (d.tdiv 1440) by rw [hq]; omega) ?_ | refine s110 ht.h0 ht.h1 ?_ | refine eIf_i (fun _ => ?_) (fun _ => ?_)) <;> (try (conv => lhs; whnf)))
  · rename_i h1
    rw [hq] at h1
    exact kb h (by rw [hm, allowsS, h1]; rfl)
  · rename_i h1
    rw [hq] at h1
    exact kb h (by rw [allowsS, h1]; rfl)
theorem s59 {x : Rul} {d : Int} (ht : RulT x) (hd : 0 ≤ d) (hd' : d < 4611686018427387904) (h : K (bv (allowsS x d)) none fr = some r) : (CC (n+4)).fn 59 [gv x.enc, iv d] fr K = some r := by
  refine cc q59_ok rfl ?_
  have hq : IntKind.wrap .i64 (d.tdiv 1440) = d / 1440 := by rw [Int.tdiv_eq_ediv_of_nonneg hd, wrap_id (by omega) (by omega)]
  have hm : d.tmod 1440 = d % 1440 := Int.tmod_eq_emod_of_nonneg hd
  conv => lhs; whnf
  repeat' ((first | refine eIf_t ?_ | refine eIf_f ?_ | refine eGet_i rfl ?_ | refine eReq_i rfl ?_ | refine slLen_e ?_ | refine s91 ht (show 0 ≤ IntKind.wrap .i64 (d.tdiv 1440) by rw [hq]; omega) ?_ | refine s68 ?_ | refine eIf_i (fun _ => ?_) (fun _ => ?_)) <;> (try (conv => lhs; whnf)))
  · rename_i h1
    rw [hq] at h1
    exact kb h (by rw [hm, allowsS, h1]; rfl)
  · rename_i h1
    rw [hq] at h1
    exact kb h (by rw [allowsS, h1]; rfl)
/-- Whether all rules allow a minute. -/
def allS (l : List Rul) (d : Int) : Bool := l.all fun x => allowsS x d
theorem s72 {s : Sl Rul} (hs : s.l.length < 1000000) {d : Int} (ht : ∀ x ∈ s.l, RulT x) (hd : 0 ≤ d) (hd' : d < 4611686018427387904) (h : K (bv (allS s.l d)) none fr = some r) : (CC (n+5)).fn 72 [rv (s.enc 11 Rul.enc), iv d] fr K = some r := by
  refine cc q72_ok rfl ?_
  conv => lhs; whnf
  repeat' ((first | refine eIf_t ?_ | refine eIf_f ?_ | refine eGet_i rfl ?_ | refine eReq_i rfl ?_ | refine slLen_e ?_ | refine eIf_i (fun _ => ?_) (fun _ => ?_)) <;> (try (conv => lhs; whnf)))
  refine eLoop_l s.l (fun k => [(0, rv (s.enc 11 Rul.enc)), (1, iv d), (5, iv k)]) (fun _ => [] :: fr) (fun k => K (bv (allS (s.l.drop k) d)) none fr = some r) (fun k y L hx hk hC hL => ?_) (fun L hC => ?_) _ (by omega) h
  · rw [allS, all_drop hx] at hC
    conv => lhs; whnf
    repeat' ((first | refine eIf_t ?_ | refine eIf_f ?_ | refine eGet_i rfl ?_ | refine eReq_i rfl ?_ | refine slLen_e ?_ | refine eIf_ct (lt_t hk) ?_ | refine slIdx_e rfl (Int.natCast_nonneg _) hx ?_ | refine s59 (ht y (List.mem_of_getElem? hx)) hd hd' ?_ | refine eIf_i (fun _ => ?_) (fun _ => ?_)) <;> (try (conv => lhs; whnf)))
    · rename_i g
      exact kb hC (by simp_all)
    · rename_i g
      rw [wrap_up (by omega)]
      exact hL (kb hC (by simp_all [allS]))
  · rw [List.drop_length] at hC
    conv => lhs; whnf
    repeat' ((first | refine eIf_t ?_ | refine eIf_f ?_ | refine eGet_i rfl ?_ | refine eReq_i rfl ?_ | refine slLen_e ?_ | refine eIf_cf lt_f ?_ | refine eIf_i (fun _ => ?_) (fun _ => ?_)) <;> (try (conv => lhs; whnf)))
    exact hC
theorem s98 {x : Rul} {d : Int} (ht : RulT x) (hd : 0 ≤ d) (hd' : d < 4611686018427387904) (h : K (bv (!(allowsS x d))) none fr = some r) : (CC (n+5)).fn 98 [gv x.enc, rv (.vptr [.int .i64 d] 0)] fr K = some r := by
  refine cc q98_ok rfl ?_
  conv => lhs; whnf
  repeat' ((first | refine eIf_t ?_ | refine eIf_f ?_ | refine eGet_i rfl ?_ | refine eReq_i rfl ?_ | refine slLen_e ?_ | refine s99 ht hd hd' ?_ | refine eIf_i (fun _ => ?_) (fun _ => ?_)) <;> (try (conv => lhs; whnf)))
  exact h
/-- The rules of a passage, with the numbers of its conditions. -/
structure Rls where
  list : Sl Rul
  numbers : Sl Int
  minutes : Int
abbrev Rls.enc (x : Rls) : List RV := [x.list.enc 11 Rul.enc, x.numbers.enc 1 encI, .int .i64 x.minutes]
theorem s69 {s : Rls} (hs : s.list.l.length < 1000000) {d : Int} (ht : ∀ x ∈ s.list.l, RulT x) (hd : 0 ≤ d) (hd' : d < 4611686018427387904) (h : K (bv (allS s.list.l d)) none fr = some r) : (CC (n+8)).fn 69 [rv (.vptr s.enc 0), iv d] fr K = some r := by
  refine cc q69_ok rfl ?_
  conv => lhs; whnf
  repeat' ((first | refine eIf_t ?_ | refine eIf_f ?_ | refine eGet_i rfl ?_ | refine eReq_i rfl ?_ | refine slLen_e ?_ | refine s82 hs (p := fun x => !(allowsS x d)) (fun x hx K r h => s98 (ht x hx) hd hd' h) ?_ | refine eIf_i (fun _ => ?_) (fun _ => ?_)) <;> (try (conv => lhs; whnf)))
  exact kb h (by rw [any_not]; simp [allS])
theorem RulT.of {x : Rul} (h : ruleS x = true) : RulT x := by
  simp only [ruleS, betweenS, Bool.and_eq_true, decide_eq_true_eq] at h
  constructor <;> omega
end Go.PM.Try

namespace Go.PM.Try
open Go.Proofs
attribute [local irreducible] eIf eReq eGet eNil slLen slRows slIdx slSub slZero slView eFind eLoopN CC Sl.enc
variable {R : Type} [Stops R] [CCW R] {n : Nat} {fr : Frames} {K : PV → Option LB → Frames → Option R} {r : R}
set_option maxRecDepth 8000
set_option linter.unusedSectionVars false

theorem s58 {s : Rls} {a b : Int} (h : K (rv (.fn 88 [.vptr [.int .i64 a] 0, .vptr [.int .i64 b] 0, .vptr [.vptr s.enc 0] 0])) none fr = some r) : (CC (n+1)).fn 58 [rv (.vptr s.enc 0), iv a, iv b] fr K = some r := by
  refine cc q58_ok rfl ?_
  conv => lhs; whnf
  repeat' ((first | refine eIf_t ?_ | refine eIf_f ?_ | refine eGet_i rfl ?_ | refine eReq_i rfl ?_ | refine slLen_e ?_ | refine eIf_i (fun _ => ?_) (fun _ => ?_)) <;> (try (conv => lhs; whnf)))
  exact h
/-! ### IndexFunc and ContainsFunc with a function that has a pointer of the caller's -/
theorem s106q {s : Sl Rul} (hs : s.l.length < 1000000) {p : Rul → Bool} {g : FuncId} {d k ri off : Nat} (hp : ∀ a ∈ s.l, ∀ (K' : PV → Option LB → Frames → Option R) (r' : R), K' (bv (p a)) none ([] :: fr) = some r' → (CC n).fn g [gv a.enc, .s (.ptr (d + 1) k ri off)] ([] :: fr) K' = some r') (h : K (iv (idxS p s.l 0)) none fr = some r) : (CC (n+1)).fn 106 [rv (s.enc 11 Rul.enc), .s (.fn g [.ptr d k ri off])] fr K = some r := by
  refine cc q106_ok rfl ?_
  conv => lhs; whnf
  repeat' ((first | refine eIf_t ?_ | refine eIf_f ?_ | refine eGet_i rfl ?_ | refine eReq_i rfl ?_ | refine slLen_e ?_ | refine eIf_i (fun _ => ?_) (fun _ => ?_)) <;> (try (conv => lhs; whnf)))
  refine eLoop_l s.l (fun k' => [(0, rv (s.enc 11 Rul.enc)), (1, .s (.fn g [.ptr d k ri off])), (7, iv s.l.length), (8, iv k')]) (fun _ => [] :: fr) (fun k' => K (iv (idxS p (s.l.drop k') k')) none fr = some r) (fun k' x L hx hk hC hL => ?_) (fun L hC => ?_) _ (by omega) h
  · rw [drop_idx hx] at hC
    conv => lhs; whnf
    repeat' ((first | refine eIf_t ?_ | refine eIf_f ?_ | refine eGet_i rfl ?_ | refine eReq_i rfl ?_ | refine slLen_e ?_ | refine eIf_ct (lt_t hk) ?_ | refine slIdx_e rfl (Int.natCast_nonneg _) hx ?_ | refine hp x (List.mem_of_getElem? hx) _ _ ?_ | refine eIf_i (fun _ => ?_) (fun _ => ?_)) <;> (try (conv => lhs; whnf)))
    · rename_i hpx
      rw [hpx] at hC
      exact hC
    · rename_i hpx
      rw [hpx] at hC
      rw [wrap_up (by omega)]
      exact hL hC
  · rw [List.drop_length] at hC
    conv => lhs; whnf
    repeat' ((first | refine eIf_t ?_ | refine eIf_f ?_ | refine eGet_i rfl ?_ | refine eReq_i rfl ?_ | refine slLen_e ?_ | refine eIf_cf lt_f ?_ | refine eIf_i (fun _ => ?_) (fun _ => ?_)) <;> (try (conv => lhs; whnf)))
    exact hC
theorem s82q {s : Sl Rul} (hs : s.l.length < 1000000) {p : Rul → Bool} {g : FuncId} {d k ri off : Nat} (hp : ∀ a ∈ s.l, ∀ (loc : List LB) (K' : PV → Option LB → Frames → Option R) (r' : R), K' (bv (p a)) none ([] :: loc :: fr) = some r' → (CC n).fn g [gv a.enc, .s (.ptr (d + 2) k ri off)] ([] :: loc :: fr) K' = some r') (h : K (bv (s.l.any p)) none fr = some r) : (CC (n+2)).fn 82 [rv (s.enc 11 Rul.enc), .s (.fn g [.ptr d k ri off])] fr K = some r := by
  refine cc q82_ok rfl ?_
  conv => lhs; whnf
  repeat' ((first | refine eIf_t ?_ | refine eIf_f ?_ | refine eGet_i rfl ?_ | refine eReq_i rfl ?_ | refine slLen_e ?_ | refine s106q hs (p := p) (fun a ha K' r' h => hp a ha _ K' r' h) ?_ | refine eIf_i (fun _ => ?_) (fun _ => ?_)) <;> (try (conv => lhs; whnf)))
  exact kb h (idxS_nonneg p s.l 0)
theorem s89 {x : Rul} {d : Int} (ht : RulT x) (hd : 0 ≤ d) (hd' : d < 4611686018427387904) {l1 l2 : List LB} {fr0 : Frames} (h : K (bv (!(dayS x (d / 1440)))) none (l1 :: l2 :: [.box [.ro (.int .i64 d)]] :: fr0) = some r) : (CC (n+4)).fn 89 [gv x.enc, .s (.ptr 3 0 0 0)] (l1 :: l2 :: [.box [.ro (.int .i64 d)]] :: fr0) K = some r := by
  refine cc q89_ok rfl ?_
  have hq : IntKind.wrap .i64 (d.tdiv 1440) = d / 1440 := by rw [Int.tdiv_eq_ediv_of_nonneg hd, wrap_id (by omega) (by omega)]
  conv => lhs; whnf
  repeat' ((first | refine eIf_t ?_ | refine eIf_f ?_ | refine eGet_i rfl ?_ | refine eReq_i rfl ?_ | refine slLen_e ?_ | refine s90 ht (show 0 ≤ IntKind.wrap .i64 (d.tdiv 1440) by rw [hq]; omega) ?_ | refine eIf_i (fun _ => ?_) (fun _ => ?_)) <;> (try (conv => lhs; whnf)))
  rw [hq]
  exact h
/-- The machine that takes windows: what it answers, and what becomes of it. -/
def loopW {σ : Type} (step : σ → Int → Int → Bool × σ) (al nd : Int → Bool) (to : Int) : Nat → Int → Int → σ → σ
  | 0, _, _, s => s
  | n + 1, at_, start, s =>
    bif decide (at_ ≤ to) then
      bif decide (at_ < to) && al at_ then loopW step al nd to n (at_ + 1) (bif decide (start < 0) then at_ else start) s
      else bif decide (start ≥ 0) && !(step s start at_).1 then (step s start at_).2
      else loopW step al nd to n ((bif decide (at_ < to) && nd at_ then min to (at_ / 1440 * 1440 + 1440) - 1 else at_) + 1) (-1) (bif decide (start ≥ 0) then (step s start at_).2 else s)
    else s
theorem s88 {σ : Type} {F : σ → Frames} {I : σ → Prop} {step : σ → Int → Int → Bool × σ} {m ix : Nat} {s : Rls} {a b : Int} (hs : s.list.l.length < 1000000) (ht : ∀ x ∈ s.list.l, RulT x) (ha : 0 ≤ a) (ha' : a < 4611686018427387000) (hb : 0 ≤ b) (hb' : b < 4611686018427387000) (hab : b - a < 1000000000)
    (hI : ∀ (q : σ) (x y : Int), I q → (step q x y).1 = true → I (step q x y).2)
    (hY : ∀ (q : σ) (x y : Int), I q → a ≤ x → x < y → y ≤ b → ∀ (loc : List LB) (K' : PV → Frames → Option R) (r' : R), K' (bv (step q x y).1) (loc :: F (step q x y).2) = some r' → (CC (n+10)).yld 1 ix [gv [.int .i64 x, .int .i64 y]] (loc :: F q) K' = some r')
    {q : σ} (hq : I q) (h : K (rv (.tup [])) none (F (loopW step (allS s.list.l) (fun d => s.list.l.any fun x => !(dayS x (d / 1440))) b ((b - a).toNat + 2) a (-1) q)) = some r) : (CC (n+11)).fn 88 [.s (.yld 1 ix), rv (.vptr [.int .i64 a] 0), rv (.vptr [.int .i64 b] 0), rv (.vptr [.vptr s.enc 0] 0)] (F q) K = some r := by
  refine cc q88_ok rfl ?_
  conv => lhs; whnf
  repeat' ((first | refine eIf_t ?_ | refine eIf_f ?_ | refine eGet_i rfl ?_ | refine eReq_i rfl ?_ | refine slLen_e ?_ | refine eIf_i (fun _ => ?_) (fun _ => ?_)) <;> (try (conv => lhs; whnf)))
  refine eLoop_i (σ := Int × Int × σ × Nat) (fun z => [(0, .s (.yld 1 ix)), (2, rv (.vptr [.int .i64 b] 0)), (3, rv (.vptr [.vptr s.enc 0] 0)), (5, iv z.2.1), (6, .s (.ptr 0 0 0 0))]) (fun z => [.box [.ro (.int .i64 z.1)]] :: F z.2.2.1)
    (fun z => a ≤ z.1 ∧ I z.2.2.1 ∧ (z.2.1 = -1 ∨ (a ≤ z.2.1 ∧ z.2.1 < z.1)) ∧ 0 ≤ z.1 ∧ z.1 < 4611686018427387904 ∧ b - z.1 + 1 < z.2.2.2 ∧ K (rv (.tup [])) none (F (loopW step (allS s.list.l) (fun d => s.list.l.any fun x => !(dayS x (d / 1440))) b z.2.2.2 z.1 z.2.1 z.2.2.1)) = some r) (fun z => z.2.2.2) (fun z L hC hL => ?_) _ (a, -1, q, (b - a).toNat + 2) ⟨Int.le_refl _, hq, .inl rfl, ha, by omega, by show b - a + 1 < (((b - a).toNat + 2 : Nat) : Int); omega, h⟩ (by show (b - a).toNat + 2 < _; omega)
  obtain ⟨at_, start, q', N⟩ := z
  obtain ⟨p0, p1, p2, h0, h1, h2, h3⟩ := hC
  simp only at p0 p1 p2 h0 h1 h2 h3 hL
  cases N with
  | zero =>
    conv => lhs; whnf
    repeat' ((first | refine eIf_t ?_ | refine eIf_f ?_ | refine eGet_i rfl ?_ | refine eReq_i rfl ?_ | refine slLen_e ?_ | refine eIf_cf (show decide (at_ ≤ b) = false by simp; omega) ?_ | refine eIf_i (fun _ => ?_) (fun _ => ?_)) <;> (try (conv => lhs; whnf)))
    exact h3
  | succ N =>
    simp only [loopW] at h3
    by_cases hle : at_ ≤ b
    · rw [decide_eq_true hle, cond_true] at h3
      have go : ∀ (at' st' : Int) (q2 : σ), at_ < at' → at' ≤ b + 1 → I q2 → (st' = -1 ∨ (a ≤ st' ∧ st' < at')) → K (rv (.tup [])) none (F (loopW step (allS s.list.l) (fun d => s.list.l.any fun x => !(dayS x (d / 1440))) b N at' st' q2)) = some r →
          L [(0, .s (.yld 1 ix)), (2, rv (.vptr [.int .i64 b] 0)), (3, rv (.vptr [.vptr s.enc 0] 0)), (5, iv st'), (6, .s (.ptr 0 0 0 0))] ([.box [.ro (.int .i64 at')]] :: F q2) = some r := fun at' st' q2 g1 g2 g4 g5 g3 =>
        hL (at', st', q2, N) ⟨by show a ≤ at'; omega, g4, g5, by show 0 ≤ at'; omega, by show at' < _; omega, by show b - at' + 1 < (N : Int); omega, g3⟩ (by show N < N + 1; omega)
      have w1 : IntKind.wrap .i64 (at_ + 1) = at_ + 1 := wrap_id (by omega) (by omega)
      have wy : IntKind.wrap .i64 (IntKind.wrap .i64 (IntKind.wrap .i64 (at_.tdiv 1440) * 1440) + 1440) = at_ / 1440 * 1440 + 1440 := by
        rw [Int.tdiv_eq_ediv_of_nonneg h0, wrap_id (x := at_ / 1440) (by omega) (by omega), wrap_id (x := at_ / 1440 * 1440) (by omega) (by omega), wrap_id (by omega) (by omega)]
      have wm : (bif decide (at_ / 1440 * 1440 + 1440 < b) then at_ / 1440 * 1440 + 1440 else b) = min b (at_ / 1440 * 1440 + 1440) := by
        by_cases g : at_ / 1440 * 1440 + 1440 < b
        · rw [decide_eq_true g, cond_true]; omega
        · rw [decide_eq_false g, cond_false]; omega
      have w2 : IntKind.wrap .i64 (IntKind.wrap .i64 ((bif (fun y x => decide (y < x)) (IntKind.wrap .i64 (IntKind.wrap .i64 (IntKind.wrap .i64 (at_.tdiv 1440) * 1440) + 1440)) b then IntKind.wrap .i64 (IntKind.wrap .i64 (IntKind.wrap .i64 (at_.tdiv 1440) * 1440) + 1440) else b) - 1) + 1) = min b (at_ / 1440 * 1440 + 1440) - 1 + 1 := by
        rw [wy]
        show IntKind.wrap .i64 (IntKind.wrap .i64 ((bif decide (at_ / 1440 * 1440 + 1440 < b) then at_ / 1440 * 1440 + 1440 else b) - 1) + 1) = _
        rw [wm, wrap_id (x := min b (at_ / 1440 * 1440 + 1440) - 1) (by omega) (by omega), wrap_id (by omega) (by omega)]
      conv => lhs; whnf
      repeat' ((first | refine eIf_t ?_ | refine eIf_f ?_ | refine eGet_i rfl ?_ | refine eReq_i rfl ?_ | refine slLen_e ?_ | refine eIf_ct (decide_eq_true hle) ?_ | refine s69 hs ht h0 h1 ?_ | refine hY q' start at_ p1 (by rename_i gg; have gg2 : start ≥ 0 := of_decide_eq_true gg; omega) (by rename_i gg; have gg2 : start ≥ 0 := of_decide_eq_true gg; omega) hle _ _ _ ?_ | refine s82q hs (p := fun x => !(dayS x (at_ / 1440))) (fun x hx loc K' r' h => s89 (ht x hx) h0 h1 h) ?_ | refine eIf_i (fun _ => ?_) (fun _ => ?_)) <;> (try (conv => lhs; whnf)))
      · rename_i e1 e2 e3
        rw [w1]
        rw [e1, e2, e3] at h3
        exact go _ _ _ (by omega) (by omega) p1 (by omega) h3
      · rename_i e1 e2 e3
        rw [w1]
        rw [e1, e2, e3] at h3
        have e3' : ¬ start < 0 := of_decide_eq_false e3
        exact go _ _ _ (by omega) (by omega) p1 (by simp only [cond_false]; omega) h3
      · rename_i e1 e2 e3 e4
        rw [e1, e2, e3, e4] at h3
        exact h3
      · rename_i e1 e2 e3 e4 e5 e6
        rw [e1, e2, e3, e4, e6] at h3
        rw [w2]
        have e1' : at_ < b := of_decide_eq_true e1
        exact go _ _ _ (by omega) (by omega) (hI q' start at_ p1 (by simpa using e4)) (by omega) h3
      · rename_i e1 e2 e3 e4 e5 e6
        rw [e1, e2, e3, e4, e6] at h3
        rw [w1]
        exact go _ _ _ (by omega) (by omega) (hI q' start at_ p1 (by simpa using e4)) (by omega) h3
      · rename_i e1 e2 e3 e4 e5
        rw [e1] at e5; cases e5
      · rename_i e1 e2 e3 e5 e6
        rw [e1, e2, e3, e6] at h3
        rw [w2]
        have e1' : at_ < b := of_decide_eq_true e1
        exact go _ _ _ (by omega) (by omega) p1 (by omega) h3
      · rename_i e1 e2 e3 e5 e6
        rw [e1, e2, e3, e6] at h3
        rw [w1]
        exact go _ _ _ (by omega) (by omega) p1 (by omega) h3
      · rename_i e1 e2 e3 e5
        rw [e1] at e5; cases e5
      · rename_i e1 e3 e4
        rw [e1, e3, e4] at h3
        exact h3
      · rename_i e1 e3 e4 e5 e6
        rw [e1] at e5; cases e5
      · rename_i e1 e3 e4 e5 e6
        rw [e1] at e5; cases e5
      · rename_i e1 e3 e4 e5
        rw [e1, e3, e4] at h3
        rw [w1]
        exact go _ _ _ (by omega) (by omega) (hI q' start at_ p1 (by simpa using e4)) (by omega) h3
      · rename_i e1 e3 e5 e6
        rw [e1] at e5; cases e5
      · rename_i e1 e3 e5 e6
        rw [e1] at e5; cases e5
      · rename_i e1 e3 e5
        rw [e1, e3] at h3
        rw [w1]
        exact go _ _ _ (by omega) (by omega) p1 (by omega) h3
    · rw [decide_eq_false hle, cond_false] at h3
      conv => lhs; whnf
      repeat' ((first | refine eIf_t ?_ | refine eIf_f ?_ | refine eGet_i rfl ?_ | refine eReq_i rfl ?_ | refine slLen_e ?_ | refine eIf_cf (decide_eq_false hle) ?_ | refine eIf_i (fun _ => ?_) (fun _ => ?_)) <;> (try (conv => lhs; whnf)))
      exact h3
end Go.PM.Try

namespace Go.PM.Try
open Go.Proofs
attribute [local irreducible] eIf eReq eGet eNil slLen slRows slIdx slSub slZero slView eFind eLoopN CC Sl.enc
variable {R : Type} [Stops R] [CCW R] {n : Nat} {fr : Frames} {K : PV → Option LB → Frames → Option R} {r : R}
set_option maxRecDepth 8000
set_option linter.unusedSectionVars false

theorem s20 {p q : Prm} (h1 : p.conds.l = q.conds.l) (h2 : p.fee = q.fee) (h3 : p.notice = q.notice) (hl : q.conds.l.length < 1000000) (h : K (bv true) none fr = some r) : (CC (n+1)).fn 20 [gv p.enc, gv q.enc] fr K = some r := by
  refine cc q20_ok rfl ?_
  have hp : p.conds.l.length = q.conds.l.length := by rw [h1]
  conv => lhs; whnf
  repeat' ((first | refine eIf_t ?_ | refine eIf_f ?_ | refine eGet_i rfl ?_ | refine eReq_i rfl ?_ | refine slLen_e ?_ | refine eIf_cf (show (p.fee != q.fee) = false by simp [h2]) ?_ | refine eIf_cf (show (p.notice != q.notice) = false by simp [h3]) ?_ | refine eIf_cf (show ((p.conds.l.length : Int) != (q.conds.l.length : Int)) = false by simp [hp]) ?_ | refine eIf_i (fun _ => ?_) (fun _ => ?_)) <;> (try (conv => lhs; whnf)))
  refine eLoop_l q.conds.l (fun k => [(2, rv (.vptr p.enc 0)), (3, rv (.vptr q.enc 0)), (5, iv k)]) (fun _ => [] :: fr) (fun _ => True) (fun k y L hx hk hC hL => ?_) (fun L hC => ?_) _ (by omega) trivial
  · have hx' : p.conds.l[k]? = some y := by rw [h1]; exact hx
    conv => lhs; whnf
    repeat' ((first | refine eIf_t ?_ | refine eIf_f ?_ | refine eGet_i rfl ?_ | refine eReq_i rfl ?_ | refine slLen_e ?_ | refine eIf_ct (lt_t (show k < p.conds.l.length by omega)) ?_ | refine slIdx_e rfl (Int.natCast_nonneg _) hx' ?_ | refine slIdx_e rfl (Int.natCast_nonneg _) hx ?_ | refine eIf_i (fun _ => ?_) (fun _ => ?_)) <;> (try (conv => lhs; whnf)))
    · rename_i g
      simp at g
    · rw [wrap_up (by omega)]
      exact hL trivial
  · conv => lhs; whnf
    repeat' ((first | refine eIf_t ?_ | refine eIf_f ?_ | refine eGet_i rfl ?_ | refine eReq_i rfl ?_ | refine slLen_e ?_ | refine eIf_cf (show decide (((q.conds.l.length : Nat) : Int) < (p.conds.l.length : Int)) = false by simp [hp]) ?_ | refine eIf_i (fun _ => ?_) (fun _ => ?_)) <;> (try (conv => lhs; whnf)))
    exact h
end Go.PM.Try

namespace Go.PM.Try
open Go.Proofs
attribute [local irreducible] eIf eReq eGet eNil slLen slRows slIdx slSub slZero slView eFind eLoopN CC Sl.enc
variable {R : Type} [Stops R] [CCW R] {n : Nat} {fr : Frames} {K : PV → Option LB → Frames → Option R} {r : R}
set_option maxRecDepth 8000
set_option linter.unusedSectionVars false

/-- What is reckoned of a permit on the way. -/
structure PS where
  conds : List Cnd
  fee : Int
  notice : Int
  used : List Bool
def rulesF (i a : Int) (road : ByteArray) (sz : Siz) : List Rul → Nat → List Cnd × Int → List Cnd × Int
  | [], _, s => s
  | x :: l, k, s => rulesF i a road sz l (k + 1) (bif isForS x road sz then (s.1 ++ [⟨i, a, k⟩], IntKind.wrap .i64 (s.2 + x.cost)) else s)
def maxS (a b : Int) : Int := bif decide (a < b) then b else a
def useF (A : Aut) (a : Nat) (s : PS) : PS := bif s.used.getD a false then s else ⟨s.conds, IntKind.wrap .i64 (s.fee + A.fee), maxS s.notice A.notice, s.used.set a true⟩
def pasStep (l : List Aut) (sz : Siz) (p : Pas) (i : Nat) (s : PS) : PS :=
  match l[(authS l p.auth).toNat]? with
  | none => s
  | some A =>
    let s1 := useF A (authS l p.auth).toNat s
    let q := rulesF i (authS l p.auth) p.road sz A.rules.l 0 (s1.conds, s1.fee)
    ⟨q.1, q.2, s1.notice, s1.used⟩
def pasF (l : List Aut) (sz : Siz) : List Pas → Nat → PS → PS
  | [], _, s => s
  | p :: ps, i, s => pasF l sz ps (i + 1) (pasStep l sz p i s)
def compileS (l : List Aut) (t : Trp) : PS := pasF l t.sizes t.passages.l 0 ⟨[], 0, 0, List.replicate l.length false⟩
def PS.prm (s : PS) : Prm := ⟨⟨0, s.conds⟩, s.fee, s.notice⟩

theorem idxS_range {α : Type} (p : α → Bool) : ∀ (l : List α) (k : Nat), 0 ≤ idxS p l k → (k : Int) ≤ idxS p l k ∧ ∃ x, l[(idxS p l k - k).toNat]? = some x ∧ p x = true
  | [], k, h => by simp [idxS] at h
  | a :: l, k, h => by
    rcases Bool.eq_false_or_eq_true (p a) with hp | hp
    · have e : idxS p (a :: l) k = k := by simp [idxS, hp]
      rw [e]
      exact ⟨Int.le_refl _, a, by simp, hp⟩
    · have e : idxS p (a :: l) k = idxS p l (k + 1) := by simp [idxS, hp]
      rw [e] at h ⊢
      obtain ⟨h1, x, h2, h3⟩ := idxS_range p l (k + 1) h
      refine ⟨by omega, x, ?_, h3⟩
      rw [show (idxS p l (k + 1) - k).toNat = (idxS p l (k + 1) - ((k + 1 : Nat) : Int)).toNat + 1 by omega]
      simpa using h2
theorem authS_at {l : List Aut} {x : ByteArray} (h : 0 ≤ authS l x) : ∃ A, l[(authS l x).toNat]? = some A ∧ eqB A.name x = true := by
  obtain ⟨_, A, h1, h2⟩ := idxS_range (fun a : Aut => eqB a.name x) l 0 h
  exact ⟨A, by simpa [authS] using h1, h2⟩

theorem slRows_v {sz : Nat} {rows : List (List RV)} {K : Nat → List (List RV) → Option R} {r : R} (h : K sz rows = some r) : slRows (.vsl sz rows) K = some r := by rw [slRows_eq]; exact h
theorem s49 {s : Sl Aut} {t : Trp} (hs : s.l.length < 1000) (hp : t.passages.l.length < 1000) (ha : ∀ p ∈ t.passages.l, 0 ≤ authS s.l p.auth) (hr : ∀ a ∈ s.l, ∀ x ∈ a.rules.l, RulOK x) (hrl : ∀ a ∈ s.l, a.rules.l.length < 1000)
    (h : K (gv (compileS s.l t).prm.enc) none fr = some r) : (CC (n+3)).fn 49 [rv (s.enc 4 Aut.enc), gv t.enc] fr K = some r := by
  refine cc q49_ok rfl ?_
  conv => lhs; whnf
  repeat' ((first | refine eIf_t ?_ | refine eIf_f ?_ | refine eGet_i rfl ?_ | refine eReq_i rfl ?_ | refine slLen_e ?_ | refine eReq_i (by simp [Nat.blt_eq, Nat.ble_eq]; omega) ?_ | refine eIf_i (fun _ => ?_) (fun _ => ?_)) <;> (try (conv => lhs; whnf)))
  refine eLoop_i (R := R) (σ := Nat × PS × List (List RV)) (fun z => [(0, rv (s.enc 4 Aut.enc)), (3, rv (.vptr t.enc 0)), (4, .s (.ptr 0 0 0 0)), (5, .s (.ptr 0 1 0 0)), (6, .s (.sl 0 2 0 ((s.l.length : Int)).toNat)), (7, iv z.1)])
    (fun z => [.box [.ro .nils, .ro (.int .i64 0), .ro (.int .i64 0)], .box [.tsl 3 (z.2.1.conds.map Cnd.enc) 0 3, .ro (.int .i64 z.2.1.fee), .ro (.int .i64 z.2.1.notice)], .arr 1 z.2.2, .tok 3 z.2.1.conds.length] :: fr)
    (fun z => z.1 ≤ t.passages.l.length ∧ z.2.1.used.length = s.l.length ∧ z.2.1.conds.length ≤ 1000 * z.1 ∧ z.2.2 = (z.2.1.used.map fun b => [RV.bool b]) ∧ K (gv (pasF s.l t.sizes (t.passages.l.drop z.1) z.1 z.2.1).prm.enc) none fr = some r) (fun z => t.passages.l.length - z.1) (fun z L hC hL => ?_) _ (0, ⟨[], 0, 0, List.replicate s.l.length false⟩, List.replicate ((s.l.length : Int)).toNat [RV.bool false]) ⟨Nat.zero_le _, by simp, by simp, by simp, h⟩ (by show _ - 0 < _; omega)
  obtain ⟨k, ps, rows⟩ := z
  obtain ⟨hk, hu, hcl, hrows, hC⟩ := hC
  simp only at hk hu hcl hrows hC hL
  rcases Nat.lt_or_ge k t.passages.l.length with hlt | hge
  · obtain ⟨p, hx⟩ : ∃ p, t.passages.l[k]? = some p := ⟨_, List.getElem?_eq_getElem hlt⟩
    have ha0 := ha p (List.mem_of_getElem? hx)
    obtain ⟨A, hA, _⟩ := authS_at ha0
    have hAl : (authS s.l p.auth).toNat < s.l.length := (List.getElem?_eq_some_iff.1 hA).1
    have hAu : (authS s.l p.auth).toNat < ps.used.length := by omega
    have hget : rows[0 + (authS s.l p.auth).toNat]? = some [RV.bool (ps.used.getD (authS s.l p.auth).toNat false)] := by
      rw [hrows, Nat.zero_add, List.getElem?_map, List.getElem?_eq_getElem hAu, List.getD_eq_getElem?_getD, List.getElem?_eq_getElem hAu]; rfl
    have hreq : (decide (0 ≤ authS s.l p.auth) && decide (authS s.l p.auth < (((s.l.length : Int).toNat : Nat) : Int)) && (1 == 1 && Nat.blt 0 1) && (0 + (authS s.l p.auth).toNat).blt rows.length) = true := by
      have e : rows.length = ps.used.length := by rw [hrows, List.length_map]
      simp only [Bool.and_eq_true, decide_eq_true_eq, Nat.blt_eq, beq_self_eq_true, e]
      refine ⟨⟨⟨ha0, by omega⟩, trivial, by omega⟩, by omega⟩
    conv => lhs; whnf
    repeat' ((first | refine eIf_t ?_ | refine eIf_f ?_ | refine eGet_i rfl ?_ | refine eReq_i rfl ?_ | refine slLen_e ?_ | refine eIf_ct (lt_t hlt) ?_ | refine slIdx_e rfl (Int.natCast_nonneg _) hx ?_ | refine s80 (by omega) ?_ | refine slIdx_e rfl ha0 hA ?_ | refine eReq_i hreq ?_ | refine eGet_i hget ?_ | refine eIf_i (fun _ => ?_) (fun _ => ?_)) <;> (try (conv => lhs; whnf)))
    · rename_i hus
      have hus' : ps.used.getD (authS s.l p.auth).toNat false = false := by simpa using hus
      have useEq : useF A (authS s.l p.auth).toNat ps = (⟨ps.conds, IntKind.wrap .i64 (ps.fee + A.fee), maxS ps.notice A.notice, ps.used.set (authS s.l p.auth).toNat true⟩ : PS) := by simp only [useF, hus', cond_false]
      have hC1 : K (gv (pasF s.l t.sizes (t.passages.l.drop (k + 1)) (k + 1) ⟨(rulesF k (authS s.l p.auth) p.road t.sizes (A.rules.l.drop 0) 0 (((⟨ps.conds, IntKind.wrap .i64 (ps.fee + A.fee), maxS ps.notice A.notice, ps.used.set (authS s.l p.auth).toNat true⟩ : PS)).conds, ((⟨ps.conds, IntKind.wrap .i64 (ps.fee + A.fee), maxS ps.notice A.notice, ps.used.set (authS s.l p.auth).toNat true⟩ : PS)).fee)).1, (rulesF k (authS s.l p.auth) p.road t.sizes (A.rules.l.drop 0) 0 (((⟨ps.conds, IntKind.wrap .i64 (ps.fee + A.fee), maxS ps.notice A.notice, ps.used.set (authS s.l p.auth).toNat true⟩ : PS)).conds, ((⟨ps.conds, IntKind.wrap .i64 (ps.fee + A.fee), maxS ps.notice A.notice, ps.used.set (authS s.l p.auth).toNat true⟩ : PS)).fee)).2, ((⟨ps.conds, IntKind.wrap .i64 (ps.fee + A.fee), maxS ps.notice A.notice, ps.used.set (authS s.l p.auth).toNat true⟩ : PS)).notice, ((⟨ps.conds, IntKind.wrap .i64 (ps.fee + A.fee), maxS ps.notice A.notice, ps.used.set (authS s.l p.auth).toNat true⟩ : PS)).used⟩).prm.enc) none fr = some r := by
        rw [drop_succ hx] at hC
        simp only [pasF, pasStep, hA] at hC
        rw [useEq] at hC
        exact hC
      refine eLoop_i (R := R) (σ := Nat × List Cnd × Int) (fun z => [(0, rv (s.enc 4 Aut.enc)), (3, rv (.vptr t.enc 0)), (4, .s (.ptr 0 0 0 0)), (5, .s (.ptr 0 1 0 0)), (6, .s (.sl 0 2 0 ((s.l.length : Int)).toNat)), (7, iv k), (8, iv (authS s.l p.auth)), (9, iv z.1)])
        (fun z => [.box [.ro .nils, .ro (.int .i64 0), .ro (.int .i64 0)], .box [.tsl 3 (z.2.1.map Cnd.enc) 0 3, .ro (.int .i64 z.2.2), .ro (.int .i64 ((⟨ps.conds, IntKind.wrap .i64 (ps.fee + A.fee), maxS ps.notice A.notice, ps.used.set (authS s.l p.auth).toNat true⟩ : PS)).notice)], .arr 1 (rows.set (0 + (authS s.l p.auth).toNat) [.bool true]), .tok 3 z.2.1.length] :: fr)
        (fun z => z.1 ≤ A.rules.l.length ∧ z.2.1.length ≤ 1000 * k + z.1 ∧ K (gv (pasF s.l t.sizes (t.passages.l.drop (k + 1)) (k + 1) ⟨(rulesF k (authS s.l p.auth) p.road t.sizes (A.rules.l.drop z.1) z.1 z.2).1, (rulesF k (authS s.l p.auth) p.road t.sizes (A.rules.l.drop z.1) z.1 z.2).2, ((⟨ps.conds, IntKind.wrap .i64 (ps.fee + A.fee), maxS ps.notice A.notice, ps.used.set (authS s.l p.auth).toNat true⟩ : PS)).notice, ((⟨ps.conds, IntKind.wrap .i64 (ps.fee + A.fee), maxS ps.notice A.notice, ps.used.set (authS s.l p.auth).toNat true⟩ : PS)).used⟩).prm.enc) none fr = some r) (fun z => A.rules.l.length - z.1) (fun z L' hC' hL' => ?_) _ (0, ((⟨ps.conds, IntKind.wrap .i64 (ps.fee + A.fee), maxS ps.notice A.notice, ps.used.set (authS s.l p.auth).toNat true⟩ : PS)).conds, ((⟨ps.conds, IntKind.wrap .i64 (ps.fee + A.fee), maxS ps.notice A.notice, ps.used.set (authS s.l p.auth).toNat true⟩ : PS)).fee) ⟨Nat.zero_le _, by show ps.conds.length ≤ _; omega, hC1⟩ (by show _ - 0 < _; have := hrl A (List.mem_of_getElem? hA); omega)
      obtain ⟨j, cs, fee⟩ := z
      obtain ⟨hj, hcs, hC'⟩ := hC'
      simp only at hj hcs hC' hL'
      have hAr := hrl A (List.mem_of_getElem? hA)
      rcases Nat.lt_or_ge j A.rules.l.length with hjl | hjg
      · obtain ⟨y, hy⟩ : ∃ y, A.rules.l[j]? = some y := ⟨_, List.getElem?_eq_getElem hjl⟩
        rw [drop_succ hy] at hC'
        simp only [rulesF] at hC'
        conv => lhs; whnf
        repeat' ((first | refine eIf_t ?_ | refine eIf_f ?_ | refine eGet_i rfl ?_ | refine eReq_i rfl ?_ | refine slLen_e ?_ | refine slIdx_e rfl ha0 hA ?_ | refine eIf_ct (lt_t hjl) ?_ | refine slIdx_e rfl (Int.natCast_nonneg _) hy ?_ | refine s81 (hr A (List.mem_of_getElem? hA) y (List.mem_of_getElem? hy)) hx ?_ | refine slRows_v ?_ | refine eNil_c rfl ?_ | refine eReq_i (by simp [Nat.ble_eq]; omega) ?_ | refine eIf_i (fun _ => ?_) (fun _ => ?_)) <;> (try (conv => lhs; whnf)))
        · rename_i g
          rw [g] at hC'
          have e1 : cs.map Cnd.enc ++ [[RV.int .i64 (k : Int), RV.int .i64 (authS s.l p.auth), RV.int .i64 (j : Int)]] = (cs ++ [(⟨k, authS s.l p.auth, j⟩ : Cnd)]).map Cnd.enc := by simp
          have e2 : (cs.map Cnd.enc).length + 1 = (cs ++ [(⟨k, authS s.l p.auth, j⟩ : Cnd)]).length := by simp
          dsimp only
          rw [wrap_up (by omega), e1]
          have hgo := hL' (j + 1, cs ++ [⟨k, authS s.l p.auth, j⟩], IntKind.wrap .i64 (fee + y.cost)) ⟨hjl, by simp; omega, hC'⟩ (by show _ - (j + 1) < _; omega)
          rw [← e2] at hgo
          exact hgo
        · rename_i g
          rw [g] at hC'
          dsimp only
          rw [wrap_up (by omega)]
          exact hL' (j + 1, cs, fee) ⟨hjl, by show cs.length ≤ _; omega, hC'⟩ (by show _ - (j + 1) < _; omega)
      · have : j = A.rules.l.length := by omega
        subst this
        rw [List.drop_length] at hC'
        conv => lhs; whnf
        repeat' ((first | refine eIf_t ?_ | refine eIf_f ?_ | refine eGet_i rfl ?_ | refine eReq_i rfl ?_ | refine slLen_e ?_ | refine slIdx_e rfl ha0 hA ?_ | refine eIf_cf lt_f ?_ | refine eIf_i (fun _ => ?_) (fun _ => ?_)) <;> (try (conv => lhs; whnf)))
        dsimp only
        rw [wrap_up (by omega)]
        exact hL (k + 1, ⟨cs, fee, ((⟨ps.conds, IntKind.wrap .i64 (ps.fee + A.fee), maxS ps.notice A.notice, ps.used.set (authS s.l p.auth).toNat true⟩ : PS)).notice, ((⟨ps.conds, IntKind.wrap .i64 (ps.fee + A.fee), maxS ps.notice A.notice, ps.used.set (authS s.l p.auth).toNat true⟩ : PS)).used⟩, rows.set (0 + (authS s.l p.auth).toNat) [.bool true]) ⟨hlt, by simp [hu], by show cs.length ≤ 1000 * (k + 1); omega, by simp [hrows, List.map_set], hC'⟩ (by show _ - (k + 1) < _; omega)
    · rename_i hus
      have hus' : ps.used.getD (authS s.l p.auth).toNat false = true := by simpa using hus
      have useEq : useF A (authS s.l p.auth).toNat ps = ps := by simp only [useF, hus', cond_true]
      have hC1 : K (gv (pasF s.l t.sizes (t.passages.l.drop (k + 1)) (k + 1) ⟨(rulesF k (authS s.l p.auth) p.road t.sizes (A.rules.l.drop 0) 0 ((ps).conds, (ps).fee)).1, (rulesF k (authS s.l p.auth) p.road t.sizes (A.rules.l.drop 0) 0 ((ps).conds, (ps).fee)).2, (ps).notice, (ps).used⟩).prm.enc) none fr = some r := by
        rw [drop_succ hx] at hC
        simp only [pasF, pasStep, hA] at hC
        rw [useEq] at hC
        exact hC
      refine eLoop_i (R := R) (σ := Nat × List Cnd × Int) (fun z => [(0, rv (s.enc 4 Aut.enc)), (3, rv (.vptr t.enc 0)), (4, .s (.ptr 0 0 0 0)), (5, .s (.ptr 0 1 0 0)), (6, .s (.sl 0 2 0 ((s.l.length : Int)).toNat)), (7, iv k), (8, iv (authS s.l p.auth)), (9, iv z.1)])
        (fun z => [.box [.ro .nils, .ro (.int .i64 0), .ro (.int .i64 0)], .box [.tsl 3 (z.2.1.map Cnd.enc) 0 3, .ro (.int .i64 z.2.2), .ro (.int .i64 (ps).notice)], .arr 1 (rows), .tok 3 z.2.1.length] :: fr)
        (fun z => z.1 ≤ A.rules.l.length ∧ z.2.1.length ≤ 1000 * k + z.1 ∧ K (gv (pasF s.l t.sizes (t.passages.l.drop (k + 1)) (k + 1) ⟨(rulesF k (authS s.l p.auth) p.road t.sizes (A.rules.l.drop z.1) z.1 z.2).1, (rulesF k (authS s.l p.auth) p.road t.sizes (A.rules.l.drop z.1) z.1 z.2).2, (ps).notice, (ps).used⟩).prm.enc) none fr = some r) (fun z => A.rules.l.length - z.1) (fun z L' hC' hL' => ?_) _ (0, (ps).conds, (ps).fee) ⟨Nat.zero_le _, by show ps.conds.length ≤ _; omega, hC1⟩ (by show _ - 0 < _; have := hrl A (List.mem_of_getElem? hA); omega)
      obtain ⟨j, cs, fee⟩ := z
      obtain ⟨hj, hcs, hC'⟩ := hC'
      simp only at hj hcs hC' hL'
      have hAr := hrl A (List.mem_of_getElem? hA)
      rcases Nat.lt_or_ge j A.rules.l.length with hjl | hjg
      · obtain ⟨y, hy⟩ : ∃ y, A.rules.l[j]? = some y := ⟨_, List.getElem?_eq_getElem hjl⟩
        rw [drop_succ hy] at hC'
        simp only [rulesF] at hC'
        conv => lhs; whnf
        repeat' ((first | refine eIf_t ?_ | refine eIf_f ?_ | refine eGet_i rfl ?_ | refine eReq_i rfl ?_ | refine slLen_e ?_ | refine slIdx_e rfl ha0 hA ?_ | refine eIf_ct (lt_t hjl) ?_ | refine slIdx_e rfl (Int.natCast_nonneg _) hy ?_ | refine s81 (hr A (List.mem_of_getElem? hA) y (List.mem_of_getElem? hy)) hx ?_ | refine slRows_v ?_ | refine eNil_c rfl ?_ | refine eReq_i (by simp [Nat.ble_eq]; omega) ?_ | refine eIf_i (fun _ => ?_) (fun _ => ?_)) <;> (try (conv => lhs; whnf)))
        · rename_i g
          rw [g] at hC'
          have e1 : cs.map Cnd.enc ++ [[RV.int .i64 (k : Int), RV.int .i64 (authS s.l p.auth), RV.int .i64 (j : Int)]] = (cs ++ [(⟨k, authS s.l p.auth, j⟩ : Cnd)]).map Cnd.enc := by simp
          have e2 : (cs.map Cnd.enc).length + 1 = (cs ++ [(⟨k, authS s.l p.auth, j⟩ : Cnd)]).length := by simp
          dsimp only
          rw [wrap_up (by omega), e1]
          have hgo := hL' (j + 1, cs ++ [⟨k, authS s.l p.auth, j⟩], IntKind.wrap .i64 (fee + y.cost)) ⟨hjl, by simp; omega, hC'⟩ (by show _ - (j + 1) < _; omega)
          rw [← e2] at hgo
          exact hgo
        · rename_i g
          rw [g] at hC'
          dsimp only
          rw [wrap_up (by omega)]
          exact hL' (j + 1, cs, fee) ⟨hjl, by show cs.length ≤ _; omega, hC'⟩ (by show _ - (j + 1) < _; omega)
      · have : j = A.rules.l.length := by omega
        subst this
        rw [List.drop_length] at hC'
        conv => lhs; whnf
        repeat' ((first | refine eIf_t ?_ | refine eIf_f ?_ | refine eGet_i rfl ?_ | refine eReq_i rfl ?_ | refine slLen_e ?_ | refine slIdx_e rfl ha0 hA ?_ | refine eIf_cf lt_f ?_ | refine eIf_i (fun _ => ?_) (fun _ => ?_)) <;> (try (conv => lhs; whnf)))
        dsimp only
        rw [wrap_up (by omega)]
        exact hL (k + 1, ⟨cs, fee, (ps).notice, (ps).used⟩, rows) ⟨hlt, by simp [hu], by show cs.length ≤ 1000 * (k + 1); omega, by simp [hrows, List.map_set], hC'⟩ (by show _ - (k + 1) < _; omega)
  · have : k = t.passages.l.length := by omega
    subst this
    rw [List.drop_length] at hC
    conv => lhs; whnf
    repeat' ((first | refine eIf_t ?_ | refine eIf_f ?_ | refine eGet_i rfl ?_ | refine eReq_i rfl ?_ | refine slLen_e ?_ | refine eIf_cf lt_f ?_ | refine eIf_i (fun _ => ?_) (fun _ => ?_)) <;> (try (conv => lhs; whnf)))
    dsimp only
    rw [seal_enc]
    exact hC
end Go.PM.Try

namespace Go.PM.Try
open Go.Proofs
attribute [local irreducible] eIf eReq eGet eNil slLen slRows slIdx slSub slZero slView eFind eLoopN CC Sl.enc
variable {R : Type} [Stops R] [CCW R] {n : Nat} {fr : Frames} {K : PV → Option LB → Frames → Option R} {r : R}
set_option maxRecDepth 8000
set_option linter.unusedSectionVars false

/-- What holds of authorities and a trip against which nothing speaks. -/
structure BeginOK (l : List Aut) (t : Trp) : Prop where
  len : l.length ≤ 8
  plen : t.passages.l.length ≤ 24
  auth : ∀ p ∈ t.passages.l, 0 ≤ authS l p.auth
  rules : ∀ a ∈ l, a.rules.l.length ≤ 24 ∧ ∀ x ∈ a.rules.l, ruleS x = true
theorem checkS_ok {a : Aut} (h : checkS a = 0) : a.rules.l.length ≤ 24 ∧ ∀ x ∈ a.rules.l, ruleS x = true := by
  unfold checkS at h
  by_cases h1 : 24 < a.rules.l.length
  · rw [decide_eq_true h1, cond_true] at h; cases h
  · rw [decide_eq_false h1, cond_false] at h
    cases h2 : (nameS a.name && betweenS a.fee 0 1073741824 && betweenS a.notice 0 1048576) with
    | false => rw [h2] at h; cases h
    | true =>
      rw [h2, cond_true] at h
      cases h3 : a.rules.l.all ruleS with
      | false => rw [h3] at h; cases h
      | true => exact ⟨by omega, fun x hx => List.all_eq_true.1 h3 x hx⟩
theorem beginS_ok {l : List Aut} {t : Trp} (h : beginS l t = 0) : BeginOK l t := by
  unfold beginS at h
  by_cases h1 : checkAllS l = 0
  · have e1 : (checkAllS l != 0) = false := by simp [h1]
    rw [e1, cond_false] at h
    by_cases h2 : checkTripS t = 0
    · have e2 : (checkTripS t != 0) = false := by simp [h2]
      rw [e2, cond_false] at h
      cases h3 : t.passages.l.any (fun p => decide (authS l p.auth < 0)) with
      | true => rw [h3] at h; cases h
      | false =>
        obtain ⟨_, a2, a3⟩ := checkAllS_ok h1
        obtain ⟨_, b2, _, _⟩ := checkTripS_ok h2
        refine ⟨a2, b2, fun p hp => ?_, fun a ha => checkS_ok (a3 a ha)⟩
        have := List.any_eq_false.1 h3 p hp
        simpa using this
    · have e2 : (checkTripS t != 0) = true := by simpa using h2
      rw [e2, cond_true] at h
      exact absurd h h2
  · have e1 : (checkAllS l != 0) = true := by simpa using h1
    rw [e1, cond_true] at h
    exact absurd h h1
def zeroPrm : Prm := ⟨⟨0, []⟩, 0, 0⟩
theorem zeroPrm_enc : zeroPrm.enc = [RV.nils, .int .i64 0, .int .i64 0] := by
  show [Sl.enc 3 Cnd.enc ⟨0, []⟩, _, _] = _
  rw [← nils_enc]; rfl
theorem s15 {s : Sl Aut} {t : Trp} (h : K (rv (.tup [.agg (bif beginS s.l t != 0 then zeroPrm else (compileS s.l t).prm).enc, .int .i64 (beginS s.l t)])) none fr = some r) : (CC (n+14)).fn 15 [rv (s.enc 4 Aut.enc), gv t.enc] fr K = some r := by
  refine cc q15_ok rfl ?_
  conv => lhs; whnf
  repeat' ((first | refine eIf_t ?_ | refine eIf_f ?_ | refine eGet_i rfl ?_ | refine eReq_i rfl ?_ | refine slLen_e ?_ | refine s48 ?_ | refine eIf_i (fun _ => ?_) (fun _ => ?_)) <;> (try (conv => lhs; whnf)))
  · rename_i h1
    rw [h1, cond_true, zeroPrm_enc] at h
    exact h
  · rename_i h1
    have h0 : beginS s.l t = 0 := by simpa using h1
    have ok := beginS_ok h0
    conv => lhs; whnf
    repeat' ((first | refine eIf_t ?_ | refine eIf_f ?_ | refine eGet_i rfl ?_ | refine eReq_i rfl ?_ | refine slLen_e ?_ | refine s49 (by have := ok.len; omega) (by have := ok.plen; omega) ok.auth (fun a ha x hx => RulOK.of ((ok.rules a ha).2 x hx)) (fun a ha => by have := (ok.rules a ha).1; omega) ?_ | refine eIf_i (fun _ => ?_) (fun _ => ?_)) <;> (try (conv => lhs; whnf)))
    rw [h1, h0] at h
    exact h
end Go.PM.Try

namespace Go.PM.Try
open Go.Proofs
attribute [local irreducible] eIf eReq eGet eNil slLen slRows slIdx slSub slZero slView eFind eLoopN CC Sl.enc
variable {R : Type} [Stops R] [CCW R] {n : Nat} {fr : Frames} {K : PV → Option LB → Frames → Option R} {r : R}
set_option maxRecDepth 8000
set_option linter.unusedSectionVars false

/-- A passage's rules and their numbers, and the permit on the way. -/
structure RS where
  list : List Rul
  numbers : List Int
  conds : List Cnd
  fee : Int
def rulesD (i a : Int) (road : ByteArray) (sz : Siz) : List Rul → Nat → RS → RS
  | [], _, s => s
  | x :: l, k, s => rulesD i a road sz l (k + 1) (bif isForS x road sz then ⟨s.list ++ [x], s.numbers ++ [(s.conds.length : Int)], s.conds ++ [⟨i, a, k⟩], IntKind.wrap .i64 (s.fee + x.cost)⟩ else s)
theorem rulesD_F (i a : Int) (road : ByteArray) (sz : Siz) : ∀ (l : List Rul) (k : Nat) (s : RS), ((rulesD i a road sz l k s).conds, (rulesD i a road sz l k s).fee) = rulesF i a road sz l k (s.conds, s.fee)
  | [], k, s => rfl
  | x :: l, k, s => by
    simp only [rulesD, rulesF]
    rw [rulesD_F i a road sz l (k + 1)]
    cases isForS x road sz <;> rfl
def pasD (l : List Aut) (sz : Siz) : List Pas → Nat → PS → List Rls → PS × List Rls
  | [], _, s, o => (s, o)
  | p :: ps, i, s, o => match l[(authS l p.auth).toNat]? with
    | none => pasD l sz ps (i + 1) s o
    | some A =>
      let s1 := useF A (authS l p.auth).toNat s
      let q := rulesD i (authS l p.auth) p.road sz A.rules.l 0 ⟨[], [], s1.conds, s1.fee⟩
      pasD l sz ps (i + 1) ⟨q.conds, q.fee, s1.notice, s1.used⟩ (o ++ [⟨⟨0, q.list⟩, ⟨0, q.numbers⟩, p.minutes⟩])
theorem pasD_F (l : List Aut) (sz : Siz) : ∀ (ps : List Pas) (i : Nat) (s : PS) (o : List Rls), (pasD l sz ps i s o).1 = pasF l sz ps i s
  | [], i, s, o => rfl
  | p :: ps, i, s, o => by
    simp only [pasD, pasF, pasStep]
    cases hA : l[(authS l p.auth).toNat]? with
    | none => exact pasD_F l sz ps (i + 1) s o
    | some A =>
      simp only
      rw [pasD_F l sz ps (i + 1)]
      rw [← rulesD_F i (authS l p.auth) p.road sz A.rules.l 0 ⟨[], [], (useF A (authS l p.auth).toNat s).conds, (useF A (authS l p.auth).toNat s).fee⟩]

/-! ### the map of numbers -/
def hasK (x : Int) (l : List Int) : Bool := l.any fun y => x == y
def mapK (ks : List Int) : List (RV × RV) := ks.map fun s => (.int .i64 s, .bool true)
theorem findE_mapK {x : Int} : ∀ (ks : List Int) (i : Nat), (hasK x ks = true → ∃ j, findE (.int .i64 x) (mapK ks) i = some (some (i + j, .bool true)) ∧ ks[j]? = some x) ∧ (hasK x ks = false → findE (.int .i64 x) (mapK ks) i = some none)
  | [], i => ⟨fun h => (by cases h), fun _ => rfl⟩
  | y :: ks, i => by
    obtain ⟨h1, h2⟩ := findE_mapK ks (i + 1)
    have e : sameKey (.int .i64 x) (.int .i64 y) = some (x == y) := rfl
    simp only [mapK, List.map_cons, findE, e]
    cases hb : (x == y) with
    | true =>
      have : x = y := by simpa using hb
      subst this
      exact ⟨fun _ => ⟨0, rfl, rfl⟩, fun h => (by simp [hasK] at h)⟩
    | false =>
      refine ⟨fun h => ?_, fun h => ?_⟩
      · obtain ⟨j, h3, h4⟩ := h1 (by simpa only [hasK, List.any_cons, hb, Bool.false_or] using h)
        refine ⟨j + 1, ?_, by simpa using h4⟩
        rw [show i + (j + 1) = i + 1 + j by omega]
        exact h3
      · exact h2 (by simpa only [hasK, List.any_cons, hb, Bool.false_or] using h)
theorem eFind_k {x : Int} {ks : List Int} {A : Nat → RV → Option R} {B : Option R} {r : R} (hA : ∀ j, hasK x ks = true → ks[j]? = some x → A j (.bool true) = some r) (hB : hasK x ks = false → B = some r) : eFind (.int .i64 x) (mapK ks) A B = some r := by
  rw [eFind_eq]
  unfold eFind0
  obtain ⟨h1, h2⟩ := findE_mapK (x := x) ks 0
  cases hx : hasK x ks with
  | true =>
    obtain ⟨j, h3, h4⟩ := h1 hx
    rw [h3, Nat.zero_add]
    exact hA j hx h4
  | false => rw [h2 hx]; exact hB hx
end Go.PM.Try

namespace Go.PM.Try
open Go.Proofs
attribute [local irreducible] eIf eReq eGet eNil slLen slRows slIdx slSub slZero slView eFind eLoopN CC Sl.enc
variable {R : Type} [Stops R] [CCW R] {n : Nat} {fr : Frames} {K : PV → Option LB → Frames → Option R} {r : R}
set_option maxRecDepth 8000
set_option linter.unusedSectionVars false

def deskE (q : PS × List Rls) : List RV := [Sl.enc 3 Cnd.enc ⟨0, q.1.conds⟩, .int .i64 q.1.fee, .int .i64 q.1.notice, Sl.enc 3 Rls.enc ⟨0, q.2⟩]
def noAuth (l : List Aut) (p : Pas) : Bool := decide (authS l p.auth < 0)
def deskR (l : List Aut) (sz : Siz) (ps : List Pas) (i : Nat) (s : PS) (o : List Rls) : RV :=
  .tup [bif ps.any (noAuth l) then RV.nilp else .vptr (deskE (pasD l sz ps i s o)) 0, .int .i64 (bif ps.any (noAuth l) then 5 else 0)]
theorem eLoop_fr {nm : QN} {body : Env → Frames → (PExit → Env → Frames → Option R) → Option R} {N : Nat} {env : Env} {fr fr' : Frames} {K : PExit → Env → Frames → Option R} {r : R} (h : eLoopN nm body N env fr' K = some r) (e : fr = fr') : eLoopN nm body N env fr K = some r := by rw [e]; exact h
theorem l_eq {L : Env → Frames → Option R} {env env' : Env} {fr fr' : Frames} {r : R} (h : L env' fr' = some r) (e1 : env = env') (e2 : fr = fr') : L env fr = some r := by rw [e1, e2]; exact h
theorem s47 {s : Sl Aut} {t : Trp} (h : K (rv (bif beginS s.l t != 0 then .tup [.nilp, .int .i64 (beginS s.l t)] else .tup [.vptr (deskE (pasD s.l t.sizes t.passages.l 0 ⟨[], 0, 0, List.replicate s.l.length false⟩ [])) 0, .int .i64 0])) none fr = some r) : (CC (n+16)).fn 47 [rv (s.enc 4 Aut.enc), gv t.enc] fr K = some r := by
  refine cc q47_ok rfl ?_
  conv => lhs; whnf
  repeat' ((first | refine eIf_t ?_ | refine eIf_f ?_ | refine eGet_i rfl ?_ | refine eReq_i rfl ?_ | refine slLen_e ?_ | refine s16 ?_ | refine s18 ?_ | refine eIf_i (fun _ => ?_) (fun _ => ?_)) <;> (try (conv => lhs; whnf)))
  · rename_i h1
    rw [show beginS s.l t = checkAllS s.l by simp only [beginS, h1, cond_true], h1] at h
    exact h
  · rename_i h1 h2
    rw [show beginS s.l t = checkTripS t by simp only [beginS, h1, h2, cond_true, cond_false], h2] at h
    exact h
  rename_i h1 h2
  have g1 : checkAllS s.l = 0 := by simpa using h1
  have g2 : checkTripS t = 0 := by simpa using h2
  obtain ⟨_, a2, a3⟩ := checkAllS_ok g1
  obtain ⟨_, b2, _, _⟩ := checkTripS_ok g2
  have h3 : K (rv (deskR s.l t.sizes (t.passages.l.drop 0) 0 ⟨[], 0, 0, List.replicate s.l.length false⟩ [])) none fr = some r := by
    have e : beginS s.l t = bif t.passages.l.any (noAuth s.l) then 5 else 0 := by simp only [beginS, h1, h2, cond_false]; rfl
    rw [e] at h
    rw [List.drop_zero]
    cases hn : t.passages.l.any (noAuth s.l) with
    | true => rw [hn] at h; simp only [deskR, hn, cond_true]; exact h
    | false => rw [hn] at h; simp only [deskR, hn, cond_false]; exact h
  clear h
  refine eLoop_i (R := R) (σ := Nat × PS × List Rls × List Int) (fun z => [(0, rv (s.enc 4 Aut.enc)), (3, rv (.vptr t.enc 0)), (8, .s (.ptr 0 0 0 0)), (9, .s (.mp 0 1)), (30, rv (t.passages.enc 3 Pas.enc)), (31, iv t.passages.l.length), (32, iv z.1)])
    (fun z => [.box [.tsl 3 (z.2.1.conds.map Cnd.enc) 0 2, .ro (.int .i64 z.2.1.fee), .ro (.int .i64 z.2.1.notice), .tsl 3 (z.2.2.1.map Rls.enc) 0 3], .map (mapK z.2.2.2), .tok 3 z.2.1.conds.length, .tok 3 z.2.2.1.length] :: fr)
    (fun z => z.1 ≤ t.passages.l.length ∧ z.2.1.used.length = s.l.length ∧ z.2.1.conds.length ≤ 1000 * z.1 ∧ z.2.2.1.length ≤ z.1 ∧ (∀ a : Nat, a < s.l.length → hasK a z.2.2.2 = z.2.1.used.getD a false) ∧ K (rv (deskR s.l t.sizes (t.passages.l.drop z.1) z.1 z.2.1 z.2.2.1)) none fr = some r) (fun z => t.passages.l.length - z.1) (fun z L hC hL => ?_) _ (0, ⟨[], 0, 0, List.replicate s.l.length false⟩, [], []) ⟨Nat.zero_le _, by simp, by simp, by simp, fun a ha => by simp [hasK, ha], h3⟩ (by show _ - 0 < _; omega)
  obtain ⟨k, ps, o, ks⟩ := z
  obtain ⟨hk, hu, hcl, hol, hks, hC⟩ := hC
  simp only at hk hu hcl hol hks hC hL
  rcases Nat.lt_or_ge k t.passages.l.length with hlt | hge
  · obtain ⟨p, hx⟩ : ∃ p, t.passages.l[k]? = some p := ⟨_, List.getElem?_eq_getElem hlt⟩
    conv => lhs; whnf
    repeat' ((first | refine eIf_t ?_ | refine eIf_f ?_ | refine eGet_i rfl ?_ | refine eReq_i rfl ?_ | refine slLen_e ?_ | refine eIf_ct (lt_t hlt) ?_ | refine slIdx_e rfl (Int.natCast_nonneg _) hx ?_ | refine s77 (by omega) (p := fun a : Aut => eqB a.name p.auth) (fun a _ K r h => s78 h) ?_ | refine eIf_i (fun _ => ?_) (fun _ => ?_)) <;> (try (conv => lhs; whnf)))
    · rename_i ha
      have hn : noAuth s.l p = true := ha
      rw [drop_succ hx] at hC
      simp only [deskR, List.any_cons, hn, Bool.true_or, cond_true] at hC
      exact hC
    rename_i ha
    have ha0 : 0 ≤ authS s.l p.auth := by
      have : ¬ authS s.l p.auth < 0 := of_decide_eq_false ha
      omega
    have hn : noAuth s.l p = false := ha
    obtain ⟨A, hA, _⟩ := authS_at ha0
    have hA' : s.l[(idxS (fun a : Aut => eqB a.name p.auth) s.l 0).toNat]? = some A := hA
    have hAl : (authS s.l p.auth).toNat < s.l.length := (List.getElem?_eq_some_iff.1 hA).1
    have ha3 := a3 A (List.mem_of_getElem? hA)
    have hAr := (checkS_ok ha3).1
    have hC' : K (rv (deskR s.l t.sizes (t.passages.l.drop (k + 1)) (k + 1) ⟨(rulesD k (authS s.l p.auth) p.road t.sizes A.rules.l 0 ⟨[], [], (useF A (authS s.l p.auth).toNat ps).conds, (useF A (authS s.l p.auth).toNat ps).fee⟩).conds, (rulesD k (authS s.l p.auth) p.road t.sizes A.rules.l 0 ⟨[], [], (useF A (authS s.l p.auth).toNat ps).conds, (useF A (authS s.l p.auth).toNat ps).fee⟩).fee, (useF A (authS s.l p.auth).toNat ps).notice, (useF A (authS s.l p.auth).toNat ps).used⟩
        (o ++ [⟨⟨0, (rulesD k (authS s.l p.auth) p.road t.sizes A.rules.l 0 ⟨[], [], (useF A (authS s.l p.auth).toNat ps).conds, (useF A (authS s.l p.auth).toNat ps).fee⟩).list⟩, ⟨0, (rulesD k (authS s.l p.auth) p.road t.sizes A.rules.l 0 ⟨[], [], (useF A (authS s.l p.auth).toNat ps).conds, (useF A (authS s.l p.auth).toNat ps).fee⟩).numbers⟩, p.minutes⟩]))) none fr = some r := by
      rw [drop_succ hx] at hC
      simp only [deskR, List.any_cons, hn, Bool.false_or, pasD, hA] at hC
      exact hC
    clear hC
    conv => lhs; whnf
    repeat' ((first | refine eIf_t ?_ | refine eIf_f ?_ | refine eGet_i rfl ?_ | refine eReq_i rfl ?_ | refine slLen_e ?_ | refine eFind_k (ks := ks) (fun j q1 q2 => ?_) (fun q1 => ?_) | refine slIdx_e rfl ha0 hA' ?_ | refine eIf_i (fun _ => ?_) (fun _ => ?_)) <;> (try (conv => lhs; whnf)))
    rotate_left
    · rename_i q3
      have q4 : hasK (authS s.l p.auth) ks = true := q1
      have q5 : hasK (authS s.l p.auth) ks = false := q3
      rw [q5] at q4; cases q4
    · have hf : ps.used.getD (authS s.l p.auth).toNat false = false := by
        rw [← hks _ hAl]
        have : (((authS s.l p.auth).toNat : Nat) : Int) = authS s.l p.auth := by omega
        rw [this]; exact q1
      obtain ⟨s1, hs1⟩ : ∃ s1, s1 = useF A (authS s.l p.auth).toNat ps := ⟨_, rfl⟩
      rw [← hs1] at hC'
      have hu' : s1.used.length = s.l.length := by rw [hs1]; simp only [useF, hf, cond_false, List.length_set, hu]
      have hcl' : s1.conds.length ≤ 1000 * k := by rw [hs1]; simp only [useF, hf, cond_false, hcl]
      obtain ⟨ks', hks'⟩ : ∃ ks', ks' = ks ++ [authS s.l p.auth] := ⟨_, rfl⟩
      have hkk : ∀ a : Nat, a < s.l.length → hasK a ks' = s1.used.getD a false := fun a ha => by
        rw [hs1, hks']
        simp only [useF, hf, cond_false, hasK, List.any_append, List.any_cons, List.any_nil, Bool.or_false]
        have h5 := hks a ha
        simp only [hasK] at h5
        rw [h5]
        by_cases he : a = (authS s.l p.auth).toNat
        · have e1 : ((a : Int) == authS s.l p.auth) = true := by rw [he]; simp; omega
          rw [e1, Bool.or_true, List.getD_eq_getElem?_getD, List.getElem?_set]
          simp [he, hu, hAl]
        · have e1 : ((a : Int) == authS s.l p.auth) = false := by simp; omega
          rw [e1, Bool.or_false, List.getD_eq_getElem?_getD, List.getD_eq_getElem?_getD, List.getElem?_set]
          simp [Ne.symm he]
      have he1 : IntKind.wrap .i64 (ps.fee + A.fee) = s1.fee := by rw [hs1]; simp only [useF, hf, cond_false]
      have he2 : ps.conds = s1.conds := by rw [hs1]; simp only [useF, hf, cond_false]
      have he3 : (bif (fun y x => decide (x < y)) A.notice ps.notice then A.notice else ps.notice) = s1.notice := by rw [hs1]; simp only [useF, hf, cond_false]; rfl
      have he4 : mapK ks ++ [(RV.int .i64 (authS s.l p.auth), RV.bool true)] = mapK ks' := by rw [hks']; simp [mapK]
      refine eLoop_fr (fr' := [.box [.tsl 3 (s1.conds.map Cnd.enc) 0 2, .ro (.int .i64 s1.fee), .ro (.int .i64 s1.notice), .tsl 3 (o.map Rls.enc) 0 3], .map (mapK ks'), .tok 3 s1.conds.length, .tok 3 o.length, .froz 3 [p.enc], .box [.tsl 11 [] 0 6, .tsl 1 [] 0 7, .ro (.int .i64 p.minutes)], .tok 11 0, .tok 1 0] :: fr) ?_ (by rw [← he1, ← he2, ← he3, ← he4]; rfl)
      refine eLoop_i (R := R) (σ := Nat × RS) (fun z => [(0, rv (s.enc 4 Aut.enc)), (3, rv (.vptr t.enc 0)), (8, .s (.ptr 0 0 0 0)), (9, .s (.mp 0 1)), (10, iv k), (11, .s (.ptr 0 4 0 0)), (12, iv (authS s.l p.auth)), (13, .s (.ptr 0 5 0 0)), (30, rv (t.passages.enc 3 Pas.enc)), (31, iv t.passages.l.length), (32, iv k), (84, rv (A.rules.enc 11 Rul.enc)), (85, iv A.rules.l.length), (86, iv z.1)])
        (fun z => [.box [.tsl 3 (z.2.conds.map Cnd.enc) 0 2, .ro (.int .i64 z.2.fee), .ro (.int .i64 s1.notice), .tsl 3 (o.map Rls.enc) 0 3], .map (mapK ks'), .tok 3 z.2.conds.length, .tok 3 o.length, .froz 3 [p.enc], .box [.tsl 11 (z.2.list.map Rul.enc) 0 6, .tsl 1 (z.2.numbers.map encI) 0 7, .ro (.int .i64 p.minutes)], .tok 11 z.2.list.length, .tok 1 z.2.numbers.length] :: fr)
        (fun z => z.1 ≤ A.rules.l.length ∧ z.2.conds.length ≤ 1000 * k + z.1 ∧ z.2.list.length ≤ z.1 ∧ z.2.numbers.length ≤ z.1 ∧ K (rv (deskR s.l t.sizes (t.passages.l.drop (k + 1)) (k + 1) ⟨(rulesD k (authS s.l p.auth) p.road t.sizes (A.rules.l.drop z.1) z.1 z.2).conds, (rulesD k (authS s.l p.auth) p.road t.sizes (A.rules.l.drop z.1) z.1 z.2).fee, s1.notice, s1.used⟩ (o ++ [(⟨⟨0, (rulesD k (authS s.l p.auth) p.road t.sizes (A.rules.l.drop z.1) z.1 z.2).list⟩, ⟨0, (rulesD k (authS s.l p.auth) p.road t.sizes (A.rules.l.drop z.1) z.1 z.2).numbers⟩, p.minutes⟩ : Rls)]))) none fr = some r) (fun z => A.rules.l.length - z.1) (fun z L' hI hL' => ?_) _ (0, ⟨[], [], s1.conds, s1.fee⟩) ⟨Nat.zero_le _, by show s1.conds.length ≤ _; omega, Nat.zero_le _, Nat.zero_le _, hC'⟩ (by show _ - 0 < _; omega)
      obtain ⟨j, q⟩ := z
      obtain ⟨hj, hq1, hq2, hq3, hI⟩ := hI
      simp only at hj hq1 hq2 hq3 hI hL'
      rcases Nat.lt_or_ge j A.rules.l.length with hjl | hjg
      · obtain ⟨y, hy⟩ : ∃ y, A.rules.l[j]? = some y := ⟨_, List.getElem?_eq_getElem hjl⟩
        rw [drop_succ hy] at hI
        simp only [rulesD] at hI
        conv => lhs; whnf
        repeat' ((first | refine eIf_t ?_ | refine eIf_f ?_ | refine eGet_i rfl ?_ | refine eReq_i rfl ?_ | refine slLen_e ?_ | refine eIf_ct (lt_t hjl) ?_ | refine slIdx_e rfl (Int.natCast_nonneg _) hy ?_ | refine s79 (RulOK.of ((checkS_ok ha3).2 y (List.mem_of_getElem? hy))) ?_ | refine slRows_v ?_ | refine eNil_c rfl ?_ | refine eReq_i (by simp [Nat.ble_eq]; omega) ?_ | refine eIf_i (fun _ => ?_) (fun _ => ?_)) <;> (try (conv => lhs; whnf)))
        · rename_i g
          rw [g] at hI
          exact l_eq (hL' (j + 1, ⟨q.list ++ [y], q.numbers ++ [(q.conds.length : Int)], q.conds ++ [Cnd.mk k (authS s.l p.auth) j], IntKind.wrap .i64 (q.fee + y.cost)⟩) ⟨hjl, by simp; omega, by simp; omega, by simp; omega, hI⟩ (by show _ - (j + 1) < _; omega)) (by rw [wrap_up (by omega)]) (by simp)
        · rename_i g
          rw [g] at hI
          dsimp only
          rw [wrap_up (by omega)]
          exact hL' (j + 1, q) ⟨hjl, by show q.conds.length ≤ _; omega, by show q.list.length ≤ _; omega, by show q.numbers.length ≤ _; omega, hI⟩ (by show _ - (j + 1) < _; omega)
      · have : j = A.rules.l.length := by omega
        subst this
        rw [List.drop_length] at hI
        conv => lhs; whnf
        repeat' ((first | refine eIf_t ?_ | refine eIf_f ?_ | refine eGet_i rfl ?_ | refine eReq_i rfl ?_ | refine slLen_e ?_ | refine eIf_cf lt_f ?_ | refine slRows_v ?_ | refine eNil_c rfl ?_ | refine eReq_i (by simp [Nat.ble_eq]; omega) ?_ | refine eIf_i (fun _ => ?_) (fun _ => ?_)) <;> (try (conv => lhs; whnf)))
        exact l_eq (hL (k + 1, ⟨q.conds, q.fee, s1.notice, s1.used⟩, o ++ [Rls.mk ⟨0, q.list⟩ ⟨0, q.numbers⟩ p.minutes], ks') ⟨hlt, hu', by show q.conds.length ≤ _; omega, by simp; omega, hkk, hI⟩ (by show _ - (k + 1) < _; omega)) (by rw [wrap_up (by omega)]) (by simp [seal_enc])
    · have hf : ps.used.getD (authS s.l p.auth).toNat false = true := by
        rw [← hks _ hAl]
        have : (((authS s.l p.auth).toNat : Nat) : Int) = authS s.l p.auth := by omega
        rw [this]; exact q1
      obtain ⟨s1, hs1⟩ : ∃ s1, s1 = useF A (authS s.l p.auth).toNat ps := ⟨_, rfl⟩
      have hs2 : s1 = ps := by rw [hs1]; simp only [useF, hf, cond_true]
      rw [← hs1] at hC'
      clear hs1
      subst hs2
      obtain ⟨ks', hks'⟩ : ∃ ks', ks' = ks := ⟨_, rfl⟩
      subst hks'
      have hu' := hu
      have hcl' := hcl
      have hkk := hks
      refine eLoop_fr (fr' := [.box [.tsl 3 (s1.conds.map Cnd.enc) 0 2, .ro (.int .i64 s1.fee), .ro (.int .i64 s1.notice), .tsl 3 (o.map Rls.enc) 0 3], .map (mapK ks'), .tok 3 s1.conds.length, .tok 3 o.length, .froz 3 [p.enc], .box [.tsl 11 [] 0 6, .tsl 1 [] 0 7, .ro (.int .i64 p.minutes)], .tok 11 0, .tok 1 0] :: fr) ?_ rfl
      refine eLoop_i (R := R) (σ := Nat × RS) (fun z => [(0, rv (s.enc 4 Aut.enc)), (3, rv (.vptr t.enc 0)), (8, .s (.ptr 0 0 0 0)), (9, .s (.mp 0 1)), (10, iv k), (11, .s (.ptr 0 4 0 0)), (12, iv (authS s.l p.auth)), (13, .s (.ptr 0 5 0 0)), (30, rv (t.passages.enc 3 Pas.enc)), (31, iv t.passages.l.length), (32, iv k), (84, rv (A.rules.enc 11 Rul.enc)), (85, iv A.rules.l.length), (86, iv z.1)])
        (fun z => [.box [.tsl 3 (z.2.conds.map Cnd.enc) 0 2, .ro (.int .i64 z.2.fee), .ro (.int .i64 s1.notice), .tsl 3 (o.map Rls.enc) 0 3], .map (mapK ks'), .tok 3 z.2.conds.length, .tok 3 o.length, .froz 3 [p.enc], .box [.tsl 11 (z.2.list.map Rul.enc) 0 6, .tsl 1 (z.2.numbers.map encI) 0 7, .ro (.int .i64 p.minutes)], .tok 11 z.2.list.length, .tok 1 z.2.numbers.length] :: fr)
        (fun z => z.1 ≤ A.rules.l.length ∧ z.2.conds.length ≤ 1000 * k + z.1 ∧ z.2.list.length ≤ z.1 ∧ z.2.numbers.length ≤ z.1 ∧ K (rv (deskR s.l t.sizes (t.passages.l.drop (k + 1)) (k + 1) ⟨(rulesD k (authS s.l p.auth) p.road t.sizes (A.rules.l.drop z.1) z.1 z.2).conds, (rulesD k (authS s.l p.auth) p.road t.sizes (A.rules.l.drop z.1) z.1 z.2).fee, s1.notice, s1.used⟩ (o ++ [(⟨⟨0, (rulesD k (authS s.l p.auth) p.road t.sizes (A.rules.l.drop z.1) z.1 z.2).list⟩, ⟨0, (rulesD k (authS s.l p.auth) p.road t.sizes (A.rules.l.drop z.1) z.1 z.2).numbers⟩, p.minutes⟩ : Rls)]))) none fr = some r) (fun z => A.rules.l.length - z.1) (fun z L' hI hL' => ?_) _ (0, ⟨[], [], s1.conds, s1.fee⟩) ⟨Nat.zero_le _, by show s1.conds.length ≤ _; omega, Nat.zero_le _, Nat.zero_le _, hC'⟩ (by show _ - 0 < _; omega)
      obtain ⟨j, q⟩ := z
      obtain ⟨hj, hq1, hq2, hq3, hI⟩ := hI
      simp only at hj hq1 hq2 hq3 hI hL'
      rcases Nat.lt_or_ge j A.rules.l.length with hjl | hjg
      · obtain ⟨y, hy⟩ : ∃ y, A.rules.l[j]? = some y := ⟨_, List.getElem?_eq_getElem hjl⟩
        rw [drop_succ hy] at hI
        simp only [rulesD] at hI
        conv => lhs; whnf
        repeat' ((first | refine eIf_t ?_ | refine eIf_f ?_ | refine eGet_i rfl ?_ | refine eReq_i rfl ?_ | refine slLen_e ?_ | refine eIf_ct (lt_t hjl) ?_ | refine slIdx_e rfl (Int.natCast_nonneg _) hy ?_ | refine s79 (RulOK.of ((checkS_ok ha3).2 y (List.mem_of_getElem? hy))) ?_ | refine slRows_v ?_ | refine eNil_c rfl ?_ | refine eReq_i (by simp [Nat.ble_eq]; omega) ?_ | refine eIf_i (fun _ => ?_) (fun _ => ?_)) <;> (try (conv => lhs; whnf)))
        · rename_i g
          rw [g] at hI
          exact l_eq (hL' (j + 1, ⟨q.list ++ [y], q.numbers ++ [(q.conds.length : Int)], q.conds ++ [Cnd.mk k (authS s.l p.auth) j], IntKind.wrap .i64 (q.fee + y.cost)⟩) ⟨hjl, by simp; omega, by simp; omega, by simp; omega, hI⟩ (by show _ - (j + 1) < _; omega)) (by rw [wrap_up (by omega)]) (by simp)
        · rename_i g
          rw [g] at hI
          dsimp only
          rw [wrap_up (by omega)]
          exact hL' (j + 1, q) ⟨hjl, by show q.conds.length ≤ _; omega, by show q.list.length ≤ _; omega, by show q.numbers.length ≤ _; omega, hI⟩ (by show _ - (j + 1) < _; omega)
      · have : j = A.rules.l.length := by omega
        subst this
        rw [List.drop_length] at hI
        conv => lhs; whnf
        repeat' ((first | refine eIf_t ?_ | refine eIf_f ?_ | refine eGet_i rfl ?_ | refine eReq_i rfl ?_ | refine slLen_e ?_ | refine eIf_cf lt_f ?_ | refine slRows_v ?_ | refine eNil_c rfl ?_ | refine eReq_i (by simp [Nat.ble_eq]; omega) ?_ | refine eIf_i (fun _ => ?_) (fun _ => ?_)) <;> (try (conv => lhs; whnf)))
        exact l_eq (hL (k + 1, ⟨q.conds, q.fee, s1.notice, s1.used⟩, o ++ [Rls.mk ⟨0, q.list⟩ ⟨0, q.numbers⟩ p.minutes], ks') ⟨hlt, hu', by show q.conds.length ≤ _; omega, by simp; omega, hkk, hI⟩ (by show _ - (k + 1) < _; omega)) (by rw [wrap_up (by omega)]) (by simp [seal_enc])
  · have : k = t.passages.l.length := by omega
    subst this
    rw [List.drop_length] at hC
    conv => lhs; whnf
    repeat' ((first | refine eIf_t ?_ | refine eIf_f ?_ | refine eGet_i rfl ?_ | refine eReq_i rfl ?_ | refine slLen_e ?_ | refine eIf_cf lt_f ?_ | refine eIf_i (fun _ => ?_) (fun _ => ?_)) <;> (try (conv => lhs; whnf)))
    dsimp only
    rw [seal_enc, seal_enc]
    exact hC
end Go.PM.Try

namespace Go.PM.Try
open Go.Proofs
attribute [local irreducible] eIf eReq eGet eNil slLen slRows slIdx slSub slZero slView eFind eLoopN CC Sl.enc
variable {R : Type} [Stops R] [CCW R] {n : Nat} {fr : Frames} {K : PV → Option LB → Frames → Option R} {r : R}
set_option maxRecDepth 8000
set_option linter.unusedSectionVars false

def deskS (l : List Aut) (t : Trp) : PS × List Rls := pasD l t.sizes t.passages.l 0 ⟨[], 0, 0, List.replicate l.length false⟩ []
theorem deskS_F (l : List Aut) (t : Trp) : (deskS l t).1 = compileS l t := pasD_F _ _ _ _ _ _
theorem pasD_len (l : List Aut) (sz : Siz) : ∀ (ps : List Pas) (i : Nat) (s : PS) (o : List Rls), (∀ p ∈ ps, 0 ≤ authS l p.auth) → (pasD l sz ps i s o).2.length = o.length + ps.length
  | [], i, s, o, h => by simp [pasD]
  | p :: ps, i, s, o, h => by
    obtain ⟨A, hA, _⟩ := authS_at (h p (by simp))
    simp only [pasD, hA]
    rw [pasD_len l sz ps (i + 1) _ _ fun q hq => h q (by simp [hq])]
    simp; omega
theorem deskS_len {l : List Aut} {t : Trp} (h : ∀ p ∈ t.passages.l, 0 ≤ authS l p.auth) : (deskS l t).2.length = t.passages.l.length := by
  rw [deskS, pasD_len _ _ _ _ _ _ h]; simp
theorem s47e {s : Sl Aut} {t : Trp} (h0 : beginS s.l t ≠ 0) (h : K (rv (.tup [.nilp, .int .i64 (beginS s.l t)])) none fr = some r) : (CC (n+16)).fn 47 [rv (s.enc 4 Aut.enc), gv t.enc] fr K = some r := by
  refine s47 ?_
  have e : (beginS s.l t != 0) = true := by simpa using h0
  rw [e, cond_true]; exact h
theorem s47o {s : Sl Aut} {t : Trp} (h0 : beginS s.l t = 0) (h : K (rv (.tup [.vptr (deskE (deskS s.l t)) 0, .int .i64 0])) none fr = some r) : (CC (n+16)).fn 47 [rv (s.enc 4 Aut.enc), gv t.enc] fr K = some r := by
  refine s47 ?_
  have e : (beginS s.l t != 0) = false := by simpa using h0
  rw [e, cond_false]; exact h
theorem s14 {s : Sl Aut} {t : Trp} (h : K (rv (.tup [.agg (bif beginS s.l t != 0 then zeroPrm else (compileS s.l t).prm).enc, .int .i64 (beginS s.l t)])) none fr = some r) : (CC (n+17)).fn 14 [rv (s.enc 4 Aut.enc), gv t.enc] fr K = some r := by
  refine cc q14_ok rfl ?_
  by_cases h0 : beginS s.l t = 0
  · have e : (beginS s.l t != 0) = false := by simpa using h0
    rw [e, cond_false, h0] at h
    conv => lhs; whnf
    repeat' ((first | refine eIf_t ?_ | refine eIf_f ?_ | refine eGet_i rfl ?_ | refine eReq_i rfl ?_ | refine slLen_e ?_ | refine s47o h0 ?_ | refine eIf_i (fun _ => ?_) (fun _ => ?_)) <;> (try (conv => lhs; whnf)))
    show K (rv (.tup [.agg [Sl.enc 3 Cnd.enc ⟨0, (deskS s.l t).1.conds⟩, .int .i64 (deskS s.l t).1.fee, .int .i64 (deskS s.l t).1.notice], .int .i64 0])) none fr = some r
    rw [deskS_F]
    exact h
  · have e : (beginS s.l t != 0) = true := by simpa using h0
    rw [e, cond_true, zeroPrm_enc] at h
    conv => lhs; whnf
    repeat' ((first | refine eIf_t ?_ | refine eIf_f ?_ | refine eGet_i rfl ?_ | refine eReq_i rfl ?_ | refine slLen_e ?_ | refine s47e h0 ?_ | refine eIf_ct e ?_ | refine eIf_i (fun _ => ?_) (fun _ => ?_)) <;> (try (conv => lhs; whnf)))
    exact h
/-! ### the rules of a passage -/
def findE (l : List Aut) (t : Trp) (p : Int) : Int := bif beginS l t != 0 then beginS l t else bif decide (p < 0) || decide ((t.passages.l.length : Int) ≤ p) then 3 else 0
theorem findE_ok {l : List Aut} {t : Trp} {p : Int} (h : findE l t p = 0) : beginS l t = 0 ∧ 0 ≤ p ∧ p < t.passages.l.length := by
  unfold findE at h
  by_cases h0 : beginS l t = 0
  · have e : (beginS l t != 0) = false := by simpa using h0
    rw [e, cond_false] at h
    refine ⟨h0, ?_⟩
    by_cases h1 : p < 0 ∨ (t.passages.l.length : Int) ≤ p
    · rcases h1 with h1 | h1 <;> simp [h1] at h
    · omega
  · have e : (beginS l t != 0) = true := by simpa using h0
    rw [e, cond_true] at h
    exact absurd h h0
theorem findE_of {l : List Aut} {t : Trp} {p : Int} (h0 : beginS l t = 0) (h1 : 0 ≤ p) (h2 : p < t.passages.l.length) : findE l t p = 0 := by
  have e : (beginS l t != 0) = false := by simpa using h0
  have e1 : decide (p < 0) = false := decide_eq_false (by omega)
  have e2 : decide ((t.passages.l.length : Int) ≤ p) = false := decide_eq_false (by omega)
  simp only [findE, e, e1, e2, cond_false, Bool.or_self]
theorem s56e {s : Sl Aut} {t : Trp} {p : Int} (h0 : findE s.l t p ≠ 0) (h : K (rv (.tup [.nilp, .int .i64 (findE s.l t p)])) none fr = some r) : (CC (n+17)).fn 56 [rv (s.enc 4 Aut.enc), gv t.enc, iv p] fr K = some r := by
  refine cc q56_ok rfl ?_
  by_cases hb : beginS s.l t = 0
  · have e : (beginS s.l t != 0) = false := by simpa using hb
    have hl := deskS_len (beginS_ok hb).auth
    have h3 : p < 0 ∨ (t.passages.l.length : Int) ≤ p := by
      by_cases h3 : p < 0 ∨ (t.passages.l.length : Int) ≤ p
      · exact h3
      · exact absurd (findE_of hb (by omega) (by omega)) h0
    have e3 : findE s.l t p = 3 := by
      rcases h3 with h3 | h3 <;> simp only [findE, e, decide_eq_true h3, cond_false, cond_true, Bool.true_or, Bool.or_true]
    rw [e3] at h
    by_cases h4 : p < 0
    · conv => lhs; whnf
      repeat' ((first | refine eIf_t ?_ | refine eIf_f ?_ | refine eGet_i rfl ?_ | refine eReq_i rfl ?_ | refine slLen_e ?_ | refine s47o hb ?_ | refine eIf_ct (decide_eq_true h4) ?_ | refine eIf_i (fun _ => ?_) (fun _ => ?_)) <;> (try (conv => lhs; whnf)))
      exact h
    · conv => lhs; whnf
      repeat' ((first | refine eIf_t ?_ | refine eIf_f ?_ | refine eGet_i rfl ?_ | refine eReq_i rfl ?_ | refine slLen_e ?_ | refine s47o hb ?_ | refine eIf_cf (decide_eq_false h4) ?_ | refine eIf_ct (show decide (p ≥ ((deskS s.l t).2.length : Int)) = true by simp; omega) ?_ | refine eIf_i (fun _ => ?_) (fun _ => ?_)) <;> (try (conv => lhs; whnf)))
      exact h
  · have e : (beginS s.l t != 0) = true := by simpa using hb
    have e2 : findE s.l t p = beginS s.l t := by simp only [findE, e, cond_true]
    rw [e2] at h
    conv => lhs; whnf
    repeat' ((first | refine eIf_t ?_ | refine eIf_f ?_ | refine eGet_i rfl ?_ | refine eReq_i rfl ?_ | refine slLen_e ?_ | refine s47e hb ?_ | refine eIf_ct e ?_ | refine eIf_i (fun _ => ?_) (fun _ => ?_)) <;> (try (conv => lhs; whnf)))
    exact h
theorem s56o {s : Sl Aut} {t : Trp} {p : Int} (h0 : findE s.l t p = 0) (h : ∀ x, (deskS s.l t).2[p.toNat]? = some x → K (rv (.tup [.vptr x.enc 0, .int .i64 0])) none fr = some r) : (CC (n+17)).fn 56 [rv (s.enc 4 Aut.enc), gv t.enc, iv p] fr K = some r := by
  refine cc q56_ok rfl ?_
  obtain ⟨hb, h1, h2⟩ := findE_ok h0
  have hl := deskS_len (beginS_ok hb).auth
  obtain ⟨x, hx⟩ : ∃ x, (deskS s.l t).2[p.toNat]? = some x := ⟨_, List.getElem?_eq_getElem (by omega)⟩
  have h' := h x hx
  conv => lhs; whnf
  repeat' ((first | refine eIf_t ?_ | refine eIf_f ?_ | refine eGet_i rfl ?_ | refine eReq_i rfl ?_ | refine slLen_e ?_ | refine s47o hb ?_ | refine slIdx_e rfl h1 hx ?_ | refine eIf_cf (show decide (p < 0) = false by simp; omega) ?_ | refine eIf_cf (show decide (p ≥ ((deskS s.l t).2.length : Int)) = false by simp; omega) ?_ | refine eIf_i (fun _ => ?_) (fun _ => ?_)) <;> (try (conv => lhs; whnf)))
  exact h'
end Go.PM.Try

namespace Go.PM.Try
open Go.Proofs
set_option linter.unusedSectionVars false

/-- The conditions of a passage: one for each rule that is for it. -/
def condsR (i a : Int) (road : ByteArray) (sz : Siz) : List Rul → Nat → List Cnd
  | [], _ => []
  | x :: l, k => bif isForS x road sz then ⟨i, a, k⟩ :: condsR i a road sz l (k + 1) else condsR i a road sz l (k + 1)
def feeR (road : ByteArray) (sz : Siz) : List Rul → Int → Int
  | [], f => f
  | x :: l, f => feeR road sz l (bif isForS x road sz then IntKind.wrap .i64 (f + x.cost) else f)
theorem rulesF_eq (i a : Int) (road : ByteArray) (sz : Siz) : ∀ (l : List Rul) (k : Nat) (s : List Cnd × Int), rulesF i a road sz l k s = (s.1 ++ condsR i a road sz l k, feeR road sz l s.2)
  | [], k, s => by simp [rulesF, condsR, feeR]
  | x :: l, k, s => by
    simp only [rulesF, condsR, feeR]
    rw [rulesF_eq i a road sz l (k + 1)]
    cases isForS x road sz <;> simp
def numsR (n0 : Nat) (m : Nat) : List Int := (List.range m).map fun j => ((n0 + j : Nat) : Int)
theorem numsR_succ (n0 m : Nat) : numsR n0 (m + 1) = (n0 : Int) :: numsR (n0 + 1) m := by
  simp only [numsR, List.range_succ_eq_map, List.map_cons, List.map_map]
  congr 1
  apply List.map_congr_left
  intro a _
  simp; omega
theorem rulesD_eq (i a : Int) (road : ByteArray) (sz : Siz) : ∀ (l : List Rul) (k : Nat) (s : RS), rulesD i a road sz l k s =
    ⟨s.list ++ l.filter (fun x => isForS x road sz), s.numbers ++ numsR s.conds.length (l.filter (fun x => isForS x road sz)).length, s.conds ++ condsR i a road sz l k, feeR road sz l s.fee⟩
  | [], k, s => by simp [rulesD, condsR, feeR, numsR]
  | x :: l, k, s => by
    simp only [rulesD, condsR, feeR]
    rw [rulesD_eq i a road sz l (k + 1)]
    cases h : isForS x road sz with
    | true => simp [h, numsR_succ]
    | false => simp [h]
theorem condsR_len (i a : Int) (road : ByteArray) (sz : Siz) : ∀ (l : List Rul) (k : Nat), (condsR i a road sz l k).length = (l.filter (fun x => isForS x road sz)).length
  | [], k => rfl
  | x :: l, k => by
    simp only [condsR]
    cases h : isForS x road sz with
    | true => simp [h, condsR_len i a road sz l (k + 1)]
    | false => simp [h, condsR_len i a road sz l (k + 1)]

/-- A passage's conditions, of all authorities. -/
def blockC (l : List Aut) (sz : Siz) (i : Nat) (p : Pas) : List Cnd := match l[(authS l p.auth).toNat]? with
  | none => []
  | some A => condsR i (authS l p.auth) p.road sz A.rules.l 0
def blocks (l : List Aut) (sz : Siz) : List Pas → Nat → List Cnd
  | [], _ => []
  | p :: ps, i => blockC l sz i p ++ blocks l sz ps (i + 1)
theorem useF_conds (A : Aut) (a : Nat) (s : PS) : (useF A a s).conds = s.conds := by
  unfold useF
  cases s.used.getD a false <;> rfl
theorem pasF_conds (l : List Aut) (sz : Siz) : ∀ (ps : List Pas) (i : Nat) (s : PS), (pasF l sz ps i s).conds = s.conds ++ blocks l sz ps i
  | [], i, s => by simp [pasF, blocks]
  | p :: ps, i, s => by
    simp only [pasF, blocks]
    rw [pasF_conds l sz ps (i + 1)]
    unfold pasStep blockC
    cases hA : l[(authS l p.auth).toNat]? with
    | none => simp
    | some A => simp [rulesF_eq, useF_conds]
/-- The rules that are for a passage. -/
def ownR (l : List Aut) (sz : Siz) (p : Pas) : List Rul := match l[(authS l p.auth).toNat]? with
  | none => []
  | some A => A.rules.l.filter fun x => isForS x p.road sz
theorem blockC_len (l : List Aut) (sz : Siz) (i : Nat) (p : Pas) : (blockC l sz i p).length = (ownR l sz p).length := by
  unfold blockC ownR
  cases l[(authS l p.auth).toNat]? with
  | none => rfl
  | some A => exact condsR_len _ _ _ _ _ _
/-- A passage's rules, numbered from n0 on. -/
def ownRls (l : List Aut) (sz : Siz) (n0 : Nat) (p : Pas) : Rls := ⟨⟨0, ownR l sz p⟩, ⟨0, numsR n0 (ownR l sz p).length⟩, p.minutes⟩
theorem pasD_get (l : List Aut) (sz : Siz) : ∀ (ps : List Pas) (i : Nat) (s : PS) (o : List Rls), (∀ p ∈ ps, 0 ≤ authS l p.auth) → ∀ (j : Nat) (x : Rls), (pasD l sz ps i s o).2[j]? = some x →
    o[j]? = some x ∨ (o.length ≤ j ∧ ∃ p, ps[j - o.length]? = some p ∧ x = ownRls l sz (s.conds.length + (blocks l sz (ps.take (j - o.length)) i).length) p)
  | [], i, s, o, h, j, x, hx => .inl hx
  | p :: ps, i, s, o, h, j, x, hx => by
    obtain ⟨A, hA, _⟩ := authS_at (h p (by simp))
    simp only [pasD, hA, rulesD_eq] at hx
    rcases pasD_get l sz ps (i + 1) _ _ (fun q hq => h q (by simp [hq])) j x hx with h1 | ⟨h1, q, h2, h3⟩
    · rw [List.getElem?_append] at h1
      split at h1
      · exact .inl h1
      · rename_i hj
        have hj0 : j - o.length = 0 := by
          cases hjj : j - o.length with
          | zero => rfl
          | succ m => rw [hjj] at h1; simp at h1
        rw [hj0] at h1
        simp only [List.getElem?_cons_zero, Option.some.injEq] at h1
        refine .inr ⟨by omega, p, by rw [hj0]; rfl, ?_⟩
        rw [hj0, ← h1]
        simp [ownRls, ownR, hA, useF_conds, blocks]
    · simp only [List.length_append, List.length_cons, List.length_nil] at h1 h2
      have hjs : j - o.length = (j - (o.length + 1)) + 1 := by omega
      refine .inr ⟨by omega, q, by rw [hjs]; simpa using h2, ?_⟩
      rw [h3, hjs]
      simp only [List.take_succ_cons, blocks, List.length_append, useF_conds, List.length_cons, List.length_nil, blockC, hA]
      rw [show s.conds.length + (condsR (↑i) (authS l p.auth) p.road sz A.rules.l 0).length + (blocks l sz (List.take (j - (o.length + (0 + 1))) ps) (i + 1)).length = s.conds.length + ((condsR (↑i) (authS l p.auth) p.road sz A.rules.l 0).length + (blocks l sz (List.take (j - (o.length + 1)) ps) (i + 1)).length) by simp only [Nat.zero_add]; omega]
/-- The number of a passage's first condition. -/
def firstN (l : List Aut) (t : Trp) (j : Nat) : Nat := (blocks l t.sizes (t.passages.l.take j) 0).length
theorem deskS_get {l : List Aut} {t : Trp} (h : ∀ p ∈ t.passages.l, 0 ≤ authS l p.auth) {j : Nat} {x : Rls} (hx : (deskS l t).2[j]? = some x) : ∃ p, t.passages.l[j]? = some p ∧ x = ownRls l t.sizes (firstN l t j) p := by
  rcases pasD_get l t.sizes t.passages.l 0 _ [] h j x hx with h1 | ⟨_, p, h2, h3⟩
  · simp at h1
  · exact ⟨p, by simpa using h2, by rw [h3]; simp [firstN]⟩
/-- What is known of a passage's rules. -/
structure RlsOK (x : Rls) : Prop where
  len : x.list.l.length ≤ 24
  rules : ∀ y ∈ x.list.l, ruleS y = true
  m0 : 1 ≤ x.minutes
  m1 : x.minutes ≤ 10080
theorem beginS_pas {l : List Aut} {t : Trp} (h : beginS l t = 0) : t.passages.l.all pasS = true := by
  unfold beginS at h
  by_cases h1 : checkAllS l = 0
  · have e1 : (checkAllS l != 0) = false := by simp [h1]
    rw [e1, cond_false] at h
    by_cases h2 : checkTripS t = 0
    · exact (checkTripS_ok h2).2.2.2
    · have e2 : (checkTripS t != 0) = true := by simpa using h2
      rw [e2, cond_true] at h
      exact absurd h h2
  · have e1 : (checkAllS l != 0) = true := by simpa using h1
    rw [e1, cond_true] at h
    exact absurd h h1
theorem ownR_ok {l : List Aut} {t : Trp} (h : beginS l t = 0) (p : Pas) : (ownR l t.sizes p).length ≤ 24 ∧ ∀ y ∈ ownR l t.sizes p, ruleS y = true := by
  unfold ownR
  cases hA : l[(authS l p.auth).toNat]? with
  | none => simp
  | some A =>
    obtain ⟨h1, h2⟩ := (beginS_ok h).rules A (List.mem_of_getElem? hA)
    refine ⟨Nat.le_trans (List.length_filter_le _ _) h1, fun y hy => h2 y (List.mem_filter.1 hy).1⟩
theorem ownRls_ok {l : List Aut} {t : Trp} (h : beginS l t = 0) {p : Pas} (hp : p ∈ t.passages.l) (n0 : Nat) : RlsOK (ownRls l t.sizes n0 p) := by
  obtain ⟨h1, h2⟩ := ownR_ok h p
  have h3 := List.all_eq_true.1 (beginS_pas h) p hp
  simp only [pasS, betweenS, Bool.and_eq_true, decide_eq_true_eq] at h3
  exact ⟨h1, h2, h3.2.1, h3.2.2⟩
end Go.PM.Try

namespace Go.PM.Try
open Go.Proofs
attribute [local irreducible] eIf eReq eGet eNil slLen slRows slIdx slSub slZero slView eFind eLoopN CC Sl.enc
variable {R : Type} [Stops R] [CCW R] {n : Nat} {fr : Frames} {K : PV → Option LB → Frames → Option R} {r : R}
set_option maxRecDepth 8000
set_option linter.unusedSectionVars false

/-- The windows, one after another. -/
def wlist (al nd : Int → Bool) (to : Int) : Nat → Int → Int → List (Int × Int)
  | 0, _, _ => []
  | n + 1, at_, start =>
    bif decide (at_ ≤ to) then
      bif decide (at_ < to) && al at_ then wlist al nd to n (at_ + 1) (bif decide (start < 0) then at_ else start)
      else bif decide (start ≥ 0) then (start, at_) :: wlist al nd to n ((bif decide (at_ < to) && nd at_ then min to (at_ / 1440 * 1440 + 1440) - 1 else at_) + 1) (-1)
      else wlist al nd to n ((bif decide (at_ < to) && nd at_ then min to (at_ / 1440 * 1440 + 1440) - 1 else at_) + 1) (-1)
    else []
def foldW {σ : Type} (step : σ → Int → Int → Bool × σ) : List (Int × Int) → σ → σ
  | [], s => s
  | w :: ws, s => bif (step s w.1 w.2).1 then foldW step ws (step s w.1 w.2).2 else (step s w.1 w.2).2
theorem loopW_fold {σ : Type} (step : σ → Int → Int → Bool × σ) (al nd : Int → Bool) (to : Int) : ∀ (n : Nat) (at_ start : Int) (s : σ), loopW step al nd to n at_ start s = foldW step (wlist al nd to n at_ start) s
  | 0, _, _, s => rfl
  | n + 1, at_, start, s => by
    simp only [loopW, wlist]
    cases decide (at_ ≤ to) with
    | false => rfl
    | true =>
      simp only [cond_true]
      cases (decide (at_ < to) && al at_) with
      | true => exact loopW_fold step al nd to n _ _ _
      | false =>
        simp only [cond_false]
        cases decide (start ≥ 0) with
        | false =>
          simp only [Bool.false_and, cond_false]
          exact loopW_fold step al nd to n _ _ _
        | true =>
          simp only [Bool.true_and, cond_true, foldW]
          cases (step s start at_).1 with
          | true => exact loopW_fold step al nd to n _ _ _
          | false => rfl
def notDay (l : List Rul) (d : Int) : Bool := l.any fun x => !(dayS x (d / 1440))
/-- The windows from a minute to another. -/
def winS (l : List Rul) (a b : Int) : List (Int × Int) := wlist (allS l) (notDay l) b ((b - a).toNat + 2) a (-1)

/-- How the search for a start stands. -/
inductive NS where
  | go
  | late
  | hit (x : Int)
def stepN (last minutes : Int) (_ : NS) (x y : Int) : Bool × NS := bif decide (x ≥ last) then (false, .late) else bif decide (y - x ≥ minutes) then (false, .hit x) else (true, .go)
def lastN (from_ : Int) : Int := (from_ / 1440 + 400) * 1440
def nextS (x : Rls) (from_ : Int) : NS := foldW (stepN (lastN from_) x.minutes) (winS x.list.l from_ (lastN from_ + x.minutes)) .go
def nsV : NS → Int
  | .hit x => x
  | _ => 0
def nsE : NS → Int
  | .hit _ => 0
  | _ => 22
def nsF (x : Rls) (last : Int) (ix : Nat) : NS → List LB
  | .go => [.box [.ro (.int .i64 0)], .box [.ro (.int .i64 0)], .box [.ro (.vptr x.enc 0)], .box [.ro (.int .i64 last)], .loop 21 8 57 [(8, .s (.ptr 0 0 0 0)), (9, .s (.ptr 0 1 0 0)), (10, .s (.ptr 0 2 0 0)), (12, .s (.ptr 0 3 0 0))] .ready]
  | .late => [.box [.ro (.int .i64 0)], .box [.ro (.int .i64 0)], .box [.ro (.vptr x.enc 0)], .box [.ro (.int .i64 last)], .loop 21 8 57 [(8, .s (.ptr 0 0 0 0)), (9, .s (.ptr 0 1 0 0)), (10, .s (.ptr 0 2 0 0)), (12, .s (.ptr 0 3 0 0))] (.done (.exit 0))]
  | .hit y => [.box [.ro (.int .i64 y)], .box [.ro (.int .i64 0)], .box [.ro (.vptr x.enc 0)], .box [.ro (.int .i64 last)], .loop 21 8 57 [(8, .s (.ptr 0 0 0 0)), (9, .s (.ptr 0 1 0 0)), (10, .s (.ptr 0 2 0 0)), (12, .s (.ptr 0 3 0 0))] (.done .ret)]
theorem y21 {x : Rls} {last a b : Int} (ha : 0 ≤ a) (hab : a < b) (hb : b < 4611686018427387904) {loc : List LB} {K' : PV → Frames → Option R} (h : K' (bv (stepN last x.minutes .go a b).1) (loc :: (nsF x last 4 (stepN last x.minutes .go a b).2 :: fr)) = some r) : (CC (n+1)).yld 1 4 [gv [.int .i64 a, .int .i64 b]] (loc :: (nsF x last 4 .go :: fr)) K' = some r := by
  refine cy q21_8_ok ?_
  conv => lhs; whnf
  repeat' ((first | refine eIf_t ?_ | refine eIf_f ?_ | refine eGet_i rfl ?_ | refine eReq_i rfl ?_ | refine slLen_e ?_ | refine eIf_i (fun _ => ?_) (fun _ => ?_)) <;> (try (conv => lhs; whnf)))
  · rename_i g
    simp only [stepN, g, cond_true] at h
    exact h
  · rename_i g1 g2
    rw [wrap_id (by omega) (by omega)] at g2
    simp only [stepN, g1, g2, cond_true, cond_false] at h
    exact h
  · rename_i g1 g2
    rw [wrap_id (by omega) (by omega)] at g2
    simp only [stepN, g1, g2, cond_false] at h
    exact h
/-- What Next answers. -/
def nextV (l : List Aut) (t : Trp) (p from_ : Int) : Int := bif findE l t p == 0 && betweenS from_ 0 1099511627776 then (match (deskS l t).2[p.toNat]? with
  | some x => nsV (nextS x from_)
  | none => 0) else 0
def nextE (l : List Aut) (t : Trp) (p from_ : Int) : Int := bif findE l t p != 0 then findE l t p else bif !(betweenS from_ 0 1099511627776) then 3 else (match (deskS l t).2[p.toNat]? with
  | some x => nsE (nextS x from_)
  | none => 0)
theorem s21 {s : Sl Aut} {t : Trp} {p from_ : Int} (h : K (rv (.tup [.int .i64 (nextV s.l t p from_), .int .i64 (nextE s.l t p from_)])) none fr = some r) : (CC (n+18)).fn 21 [rv (s.enc 4 Aut.enc), gv t.enc, iv p, iv from_] fr K = some r := by
  refine cc q21_ok rfl ?_
  by_cases h0 : findE s.l t p = 0
  · have b0 : (findE s.l t p == 0) = true := by simpa using h0
    have b1 : (findE s.l t p != 0) = false := by simpa using h0
    cases hf : betweenS from_ 0 1099511627776 with
    | false =>
      conv => lhs; whnf
      repeat' ((first | refine eIf_t ?_ | refine eIf_f ?_ | refine eGet_i rfl ?_ | refine eReq_i rfl ?_ | refine slLen_e ?_ | refine s56o h0 (fun x hx => ?_) | refine s57 ?_ | refine eIf_ct (show (!(betweenS from_ 0 1099511627776)) = true by rw [hf]; rfl) ?_ | refine eIf_i (fun _ => ?_) (fun _ => ?_)) <;> (try (conv => lhs; whnf)))
      simp only [nextV, nextE, b0, b1, hf, Bool.and_false, cond_false, Bool.not_false, cond_true] at h
      exact h
    | true =>
      have hf' : 0 ≤ from_ ∧ from_ ≤ 1099511627776 := by simpa [betweenS] using hf
      conv => lhs; whnf
      repeat' ((first | refine eIf_t ?_ | refine eIf_f ?_ | refine eGet_i rfl ?_ | refine eReq_i rfl ?_ | refine slLen_e ?_ | refine s56o h0 (fun x hx => ?_) | refine s57 ?_ | refine s58 ?_ | refine eIf_cf (show (!(betweenS from_ 0 1099511627776)) = false by rw [hf]; rfl) ?_ | refine eIf_i (fun _ => ?_) (fun _ => ?_)) <;> (try (conv => lhs; whnf)))
      simp only [nextV, nextE, b0, b1, hf, Bool.and_true, cond_false, Bool.not_true, cond_true, hx] at h
      obtain ⟨hb, h1, h2⟩ := findE_ok h0
      obtain ⟨p', hp', rfl⟩ := deskS_get (beginS_ok hb).auth hx
      have ok := ownRls_ok hb (List.mem_of_getElem? hp') (firstN s.l t p.toNat)
      generalize ownRls s.l t.sizes (firstN s.l t p.toNat) p' = x at *
      have l24 := ok.len
      have m0 := ok.m0
      have m1 := ok.m1
      have e1 : IntKind.i64.wrap (IntKind.i64.wrap (IntKind.i64.wrap (from_.tdiv 1440) + 400) * 1440) = lastN from_ := by
        rw [Int.tdiv_eq_ediv_of_nonneg hf'.1, wrap_id (x := from_ / 1440) (by omega) (by omega), wrap_id (x := from_ / 1440 + 400) (by omega) (by omega), wrap_id (by omega) (by omega)]; rfl
      have hl : lastN from_ = (from_ / 1440 + 400) * 1440 := rfl
      rw [e1, wrap_id (by omega) (by omega)]
      refine s88 (n := n + 6) (σ := NS) (F := fun q => nsF x (lastN from_) 4 q :: fr) (I := fun q => q = .go) (step := stepN (lastN from_) x.minutes) (m := 0) (by omega) (fun y hy => RulT.of (ok.rules y hy)) hf'.1 (by omega) (by omega) (by omega) (by omega) (fun q a b hq g => ?_) (fun q a b hq ha hab hbb loc K' r' hK => ?_) (q := .go) rfl ?_
      · subst hq
        unfold stepN at g ⊢
        revert g
        cases decide (a ≥ lastN from_) <;> cases decide (b - a ≥ x.minutes) <;> simp
      · subst hq
        exact y21 (by omega) hab (by omega) hK
      · rw [loopW_fold]
        have hn : foldW (stepN (lastN from_) x.minutes) (wlist (allS x.list.l) (fun d => x.list.l.any fun x => !(dayS x (d / 1440))) (lastN from_ + x.minutes) ((lastN from_ + x.minutes - from_).toNat + 2) from_ (-1)) .go = nextS x from_ := rfl
        rw [hn]
        clear hn
        cases hns : nextS x from_ with
        | go =>
          rw [hns] at h
          conv => lhs; whnf
          repeat' ((first | refine eIf_t ?_ | refine eIf_f ?_ | refine eGet_i rfl ?_ | refine eReq_i rfl ?_ | refine slLen_e ?_ | refine eIf_i (fun _ => ?_) (fun _ => ?_)) <;> (try (conv => lhs; whnf)))
          exact h
        | late =>
          rw [hns] at h
          conv => lhs; whnf
          repeat' ((first | refine eIf_t ?_ | refine eIf_f ?_ | refine eGet_i rfl ?_ | refine eReq_i rfl ?_ | refine slLen_e ?_ | refine eIf_i (fun _ => ?_) (fun _ => ?_)) <;> (try (conv => lhs; whnf)))
          exact h
        | hit y =>
          rw [hns] at h
          conv => lhs; whnf
          repeat' ((first | refine eIf_t ?_ | refine eIf_f ?_ | refine eGet_i rfl ?_ | refine eReq_i rfl ?_ | refine slLen_e ?_ | refine eIf_i (fun _ => ?_) (fun _ => ?_)) <;> (try (conv => lhs; whnf)))
          exact h
  · have b0 : (findE s.l t p == 0) = false := by simpa using h0
    have b1 : (findE s.l t p != 0) = true := by simpa using h0
    conv => lhs; whnf
    repeat' ((first | refine eIf_t ?_ | refine eIf_f ?_ | refine eGet_i rfl ?_ | refine eReq_i rfl ?_ | refine slLen_e ?_ | refine s56e h0 ?_ | refine eIf_ct b1 ?_ | refine eIf_i (fun _ => ?_) (fun _ => ?_)) <;> (try (conv => lhs; whnf)))
    simp only [nextV, nextE, b0, b1, Bool.false_and, cond_false, cond_true] at h
    exact h
end Go.PM.Try

namespace Go.PM.Try
open Go.Proofs
attribute [local irreducible] eIf eReq eGet eNil slLen slRows slIdx slSub slZero slView eFind eLoopN CC Sl.enc
variable {R : Type} [Stops R] [CCW R] {n : Nat} {fr : Frames} {K : PV → Option LB → Frames → Option R} {r : R}
set_option maxRecDepth 8000
set_option linter.unusedSectionVars false

theorem s113 {x : Rul} (h : K (bv x.forbid) none fr = some r) : (CC (n+1)).fn 113 [gv x.enc] fr K = some r := by
  refine cc q113_ok rfl ?_
  conv => lhs; whnf
  repeat' ((first | refine eIf_t ?_ | refine eIf_f ?_ | refine eGet_i rfl ?_ | refine eReq_i rfl ?_ | refine slLen_e ?_ | refine eIf_i (fun _ => ?_) (fun _ => ?_)) <;> (try (conv => lhs; whnf)))
  exact h
def forbidS (l : List Rul) : Bool := l.any fun x => x.forbid
theorem s93 {s : Sl Rul} (hs : s.l.length < 1000000) (h : K (bv (forbidS s.l)) none fr = some r) : (CC (n+4)).fn 93 [rv (s.enc 11 Rul.enc)] fr K = some r := by
  refine cc q93_ok rfl ?_
  conv => lhs; whnf
  repeat' ((first | refine eIf_t ?_ | refine eIf_f ?_ | refine eGet_i rfl ?_ | refine eReq_i rfl ?_ | refine slLen_e ?_ | refine s112 hs (p := fun x => x.forbid) (fun x _ K r h => s113 h) ?_ | refine eIf_i (fun _ => ?_) (fun _ => ?_)) <;> (try (conv => lhs; whnf)))
  exact h
theorem s115 {x : Rul} (h : K (gv [.int .i64 x.h0, .int .i64 x.h1]) none fr = some r) : (CC (n+1)).fn 115 [gv x.enc] fr K = some r := by
  refine cc q115_ok rfl ?_
  conv => lhs; whnf
  repeat' ((first | refine eIf_t ?_ | refine eIf_f ?_ | refine eGet_i rfl ?_ | refine eReq_i rfl ?_ | refine slLen_e ?_ | refine eIf_i (fun _ => ?_) (fun _ => ?_)) <;> (try (conv => lhs; whnf)))
  exact h
theorem s116 {x : Rul} (h : K (gv [.int .i64 x.s0, .int .i64 x.s1]) none fr = some r) : (CC (n+1)).fn 116 [gv x.enc] fr K = some r := by
  refine cc q116_ok rfl ?_
  conv => lhs; whnf
  repeat' ((first | refine eIf_t ?_ | refine eIf_f ?_ | refine eGet_i rfl ?_ | refine eReq_i rfl ?_ | refine slLen_e ?_ | refine eIf_i (fun _ => ?_) (fun _ => ?_)) <;> (try (conv => lhs; whnf)))
  exact h
theorem s124h {x : Rul} {v : Int} (ht : RulT x) (h : K (bv (!(liesS v x.h0 x.h1))) none fr = some r) : (CC (n+3)).fn 124 [gv x.enc, rv (.vptr [.int .i64 v] 0), rv (.vptr [.fn 115 []] 0)] fr K = some r := by
  refine cc q124_ok rfl ?_
  conv => lhs; whnf
  repeat' ((first | refine eIf_t ?_ | refine eIf_f ?_ | refine eGet_i rfl ?_ | refine eReq_i rfl ?_ | refine slLen_e ?_ | refine s115 ?_ | refine s110 ht.h0 ht.h1 ?_ | refine eIf_i (fun _ => ?_) (fun _ => ?_)) <;> (try (conv => lhs; whnf)))
  exact h
theorem s124s {x : Rul} {v : Int} (ht : RulT x) (h : K (bv (!(liesS v x.s0 x.s1))) none fr = some r) : (CC (n+3)).fn 124 [gv x.enc, rv (.vptr [.int .i64 v] 0), rv (.vptr [.fn 116 []] 0)] fr K = some r := by
  refine cc q124_ok rfl ?_
  conv => lhs; whnf
  repeat' ((first | refine eIf_t ?_ | refine eIf_f ?_ | refine eGet_i rfl ?_ | refine eReq_i rfl ?_ | refine slLen_e ?_ | refine s116 ?_ | refine s110 ht.s0 ht.s1 ?_ | refine eIf_i (fun _ => ?_) (fun _ => ?_)) <;> (try (conv => lhs; whnf)))
  exact h
/-- No number lies between those of all. -/
def emptyH (l : List Rul) (v : Nat) : Bool := l.any fun x => !(liesS v x.h0 x.h1)
def emptyN (l : List Rul) (v : Nat) : Bool := l.any fun x => !(liesS v x.s0 x.s1)
theorem nT {b : Bool} (h : (!b) = true) : b = false := by cases b <;> simp_all
theorem nF {b : Bool} (h : (!b) = false) : b = true := by cases b <;> simp_all
theorem range_get {m k x : Nat} (h : (List.range m)[k]? = some x) : x = k ∧ k < m := by
  obtain ⟨h1, h2⟩ := List.getElem?_eq_some_iff.1 h
  simp at h1 h2
  exact ⟨h2.symm, h1⟩
theorem s114h {s : Sl Rul} (hs : s.l.length < 1000000) (ht : ∀ x ∈ s.l, RulT x) {m : Nat} (hm : m ≤ 2000) (h : K (bv ((List.range m).all (emptyH s.l))) none fr = some r) : (CC (n+6)).fn 114 [rv (s.enc 11 Rul.enc), iv m, rv (.fn 115 [])] fr K = some r := by
  refine cc q114_ok rfl ?_
  conv => lhs; whnf
  repeat' ((first | refine eIf_t ?_ | refine eIf_f ?_ | refine eGet_i rfl ?_ | refine eReq_i rfl ?_ | refine slLen_e ?_ | refine eIf_i (fun _ => ?_) (fun _ => ?_)) <;> (try (conv => lhs; whnf)))
  refine eLoop_l (List.range m) (fun k => [(0, rv (s.enc 11 Rul.enc)), (5, rv (.vptr [.fn 115 []] 0)), (8, iv m), (9, iv k)]) (fun _ => [] :: fr) (fun k => K (bv (((List.range m).drop k).all (emptyH s.l))) none fr = some r) (fun k y L hx hk hC hL => ?_) (fun L hC => ?_) _ (by simp; omega) h
  · obtain ⟨rfl, hk⟩ := range_get hx
    rw [all_drop hx] at hC
    conv => lhs; whnf
    repeat' ((first | refine eIf_t ?_ | refine eIf_f ?_ | refine eGet_i rfl ?_ | refine eReq_i rfl ?_ | refine slLen_e ?_ | refine eIf_ct (lt_t hk) ?_ | refine s112 hs (p := fun x => !(liesS y x.h0 x.h1)) (fun x hx K r h => s124h (ht x hx) h) ?_ | refine eIf_i (fun _ => ?_) (fun _ => ?_)) <;> (try (conv => lhs; whnf)))
    · rename_i g
      have g' : emptyH s.l y = false := nT g
      rw [g'] at hC
      exact hC
    · rename_i g
      have g' : emptyH s.l y = true := nF g
      rw [g'] at hC
      rw [wrap_up (by omega)]
      exact hL hC
  · rw [List.drop_length] at hC
    rw [List.length_range]
    conv => lhs; whnf
    repeat' ((first | refine eIf_t ?_ | refine eIf_f ?_ | refine eGet_i rfl ?_ | refine eReq_i rfl ?_ | refine slLen_e ?_ | refine eIf_cf lt_f ?_ | refine eIf_i (fun _ => ?_) (fun _ => ?_)) <;> (try (conv => lhs; whnf)))
    exact hC
theorem s114s {s : Sl Rul} (hs : s.l.length < 1000000) (ht : ∀ x ∈ s.l, RulT x) {m : Nat} (hm : m ≤ 2000) (h : K (bv ((List.range m).all (emptyN s.l))) none fr = some r) : (CC (n+6)).fn 114 [rv (s.enc 11 Rul.enc), iv m, rv (.fn 116 [])] fr K = some r := by
  refine cc q114_ok rfl ?_
  conv => lhs; whnf
  repeat' ((first | refine eIf_t ?_ | refine eIf_f ?_ | refine eGet_i rfl ?_ | refine eReq_i rfl ?_ | refine slLen_e ?_ | refine eIf_i (fun _ => ?_) (fun _ => ?_)) <;> (try (conv => lhs; whnf)))
  refine eLoop_l (List.range m) (fun k => [(0, rv (s.enc 11 Rul.enc)), (5, rv (.vptr [.fn 116 []] 0)), (8, iv m), (9, iv k)]) (fun _ => [] :: fr) (fun k => K (bv (((List.range m).drop k).all (emptyN s.l))) none fr = some r) (fun k y L hx hk hC hL => ?_) (fun L hC => ?_) _ (by simp; omega) h
  · obtain ⟨rfl, hk⟩ := range_get hx
    rw [all_drop hx] at hC
    conv => lhs; whnf
    repeat' ((first | refine eIf_t ?_ | refine eIf_f ?_ | refine eGet_i rfl ?_ | refine eReq_i rfl ?_ | refine slLen_e ?_ | refine eIf_ct (lt_t hk) ?_ | refine s112 hs (p := fun x => !(liesS y x.s0 x.s1)) (fun x hx K r h => s124s (ht x hx) h) ?_ | refine eIf_i (fun _ => ?_) (fun _ => ?_)) <;> (try (conv => lhs; whnf)))
    · rename_i g
      have g' : emptyN s.l y = false := nT g
      rw [g'] at hC
      exact hC
    · rename_i g
      have g' : emptyN s.l y = true := nF g
      rw [g'] at hC
      rw [wrap_up (by omega)]
      exact hL hC
  · rw [List.drop_length] at hC
    rw [List.length_range]
    conv => lhs; whnf
    repeat' ((first | refine eIf_t ?_ | refine eIf_f ?_ | refine eGet_i rfl ?_ | refine eReq_i rfl ?_ | refine slLen_e ?_ | refine eIf_cf lt_f ?_ | refine eIf_i (fun _ => ?_) (fun _ => ?_)) <;> (try (conv => lhs; whnf)))
    exact hC
theorem s94 {s : Sl Rul} (hs : s.l.length < 1000000) (ht : ∀ x ∈ s.l, RulT x) (h : K (bv ((List.range 1440).all (emptyH s.l))) none fr = some r) : (CC (n+7)).fn 94 [rv (s.enc 11 Rul.enc)] fr K = some r := by
  refine cc q94_ok rfl ?_
  conv => lhs; whnf
  repeat' ((first | refine eIf_t ?_ | refine eIf_f ?_ | refine eGet_i rfl ?_ | refine eReq_i rfl ?_ | refine slLen_e ?_ | refine s114h (m := 1440) hs ht (by omega) ?_ | refine eIf_i (fun _ => ?_) (fun _ => ?_)) <;> (try (conv => lhs; whnf)))
  exact h
theorem s96 {s : Sl Rul} (hs : s.l.length < 1000000) (ht : ∀ x ∈ s.l, RulT x) (h : K (bv ((List.range 365).all (emptyN s.l))) none fr = some r) : (CC (n+7)).fn 96 [rv (s.enc 11 Rul.enc)] fr K = some r := by
  refine cc q96_ok rfl ?_
  conv => lhs; whnf
  repeat' ((first | refine eIf_t ?_ | refine eIf_f ?_ | refine eGet_i rfl ?_ | refine eReq_i rfl ?_ | refine slLen_e ?_ | refine s114s (m := 365) hs ht (by omega) ?_ | refine eIf_i (fun _ => ?_) (fun _ => ?_)) <;> (try (conv => lhs; whnf)))
  exact h
def andS (a b : Int) : Int := back IntKind.i64 (BitVec.ofInt IntKind.i64.bits a &&& BitVec.ofInt IntKind.i64.bits b)
def daysF : List Rul → Int → Int
  | [], a => a
  | x :: l, a => daysF l (andS a x.days)
theorem s95 {s : Sl Rul} (hs : s.l.length < 1000000) (h : K (bv (daysF s.l 127 == 0)) none fr = some r) : (CC (n+1)).fn 95 [rv (s.enc 11 Rul.enc)] fr K = some r := by
  refine cc q95_ok rfl ?_
  conv => lhs; whnf
  repeat' ((first | refine eIf_t ?_ | refine eIf_f ?_ | refine eGet_i rfl ?_ | refine eReq_i rfl ?_ | refine slLen_e ?_ | refine eIf_i (fun _ => ?_) (fun _ => ?_)) <;> (try (conv => lhs; whnf)))
  refine eLoop_i (σ := Nat × Int) (fun z => [(3, iv z.2), (6, rv (s.enc 11 Rul.enc)), (7, iv s.l.length), (8, iv z.1)]) (fun _ => [] :: fr) (fun z => z.1 ≤ s.l.length ∧ K (bv (daysF (s.l.drop z.1) z.2 == 0)) none fr = some r) (fun z => s.l.length - z.1) (fun z L hC hL => ?_) _ (0, 127) ⟨Nat.zero_le _, h⟩ (by show _ - 0 < _; omega)
  obtain ⟨k, a⟩ := z
  obtain ⟨hk, hC⟩ := hC
  simp only at hk hC hL
  rcases Nat.lt_or_ge k s.l.length with hlt | hge
  · obtain ⟨y, hx⟩ : ∃ y, s.l[k]? = some y := ⟨_, List.getElem?_eq_getElem hlt⟩
    rw [drop_succ hx] at hC
    conv => lhs; whnf
    repeat' ((first | refine eIf_t ?_ | refine eIf_f ?_ | refine eGet_i rfl ?_ | refine eReq_i rfl ?_ | refine slLen_e ?_ | refine eIf_ct (lt_t hlt) ?_ | refine slIdx_e rfl (Int.natCast_nonneg _) hx ?_ | refine eIf_i (fun _ => ?_) (fun _ => ?_)) <;> (try (conv => lhs; whnf)))
    exact l_eq (hL (k + 1, andS a y.days) ⟨hlt, hC⟩ (by show _ - (k + 1) < _; omega)) (by rw [wrap_up (by omega)]; rfl) rfl
  · have : k = s.l.length := by omega
    subst this
    rw [List.drop_length] at hC
    conv => lhs; whnf
    repeat' ((first | refine eIf_t ?_ | refine eIf_f ?_ | refine eGet_i rfl ?_ | refine eReq_i rfl ?_ | refine slLen_e ?_ | refine eIf_cf lt_f ?_ | refine eIf_i (fun _ => ?_) (fun _ => ?_)) <;> (try (conv => lhs; whnf)))
    exact hC
def minS (a b : Int) : Int := bif decide (b < a) then b else a
def cntF (name : ByteArray) : List Cnt → Int × Int → Int × Int
  | [], a => a
  | c :: l, a => cntF name l (bif eqB c.thing name then (maxS a.1 c.least, minS a.2 c.most) else a)
def thingF (name : ByteArray) : List Rul → Int × Int → Int × Int
  | [], a => a
  | x :: l, a => thingF name l (cntF name x.counts.l a)
def overB (p : Int × Int) : Bool := decide (p.1 > p.2)
def thingS (name : ByteArray) (l : List Rul) : Bool := overB (thingF name l (0, 1000))
theorem s97 {s : Sl Rul} (hs : s.l.length < 1000000) (hc : ∀ x ∈ s.l, x.counts.l.length < 1000000) {name : ByteArray} (h : K (bv (thingS name s.l)) none fr = some r) : (CC (n+1)).fn 97 [rv (s.enc 11 Rul.enc), sv name] fr K = some r := by
  refine cc q97_ok rfl ?_
  conv => lhs; whnf
  repeat' ((first | refine eIf_t ?_ | refine eIf_f ?_ | refine eGet_i rfl ?_ | refine eReq_i rfl ?_ | refine slLen_e ?_ | refine eIf_i (fun _ => ?_) (fun _ => ?_)) <;> (try (conv => lhs; whnf)))
  refine eLoop_i (σ := Nat × Int × Int) (fun z => [(1, sv name), (5, iv z.2.1), (6, iv z.2.2), (11, rv (s.enc 11 Rul.enc)), (12, iv s.l.length), (13, iv z.1)]) (fun _ => [] :: fr) (fun z => z.1 ≤ s.l.length ∧ K (bv (overB (thingF name (s.l.drop z.1) z.2))) none fr = some r) (fun z => s.l.length - z.1) (fun z L hC hL => ?_) _ (0, 0, 1000) ⟨Nat.zero_le _, h⟩ (by show _ - 0 < _; omega)
  obtain ⟨k, a, b⟩ := z
  obtain ⟨hk, hC⟩ := hC
  simp only at hk hC hL
  rcases Nat.lt_or_ge k s.l.length with hlt | hge
  · obtain ⟨y, hx⟩ : ∃ y, s.l[k]? = some y := ⟨_, List.getElem?_eq_getElem hlt⟩
    have hyc := hc y (List.mem_of_getElem? hx)
    rw [drop_succ hx] at hC
    simp only [thingF] at hC
    conv => lhs; whnf
    repeat' ((first | refine eIf_t ?_ | refine eIf_f ?_ | refine eGet_i rfl ?_ | refine eReq_i rfl ?_ | refine slLen_e ?_ | refine eIf_ct (lt_t hlt) ?_ | refine slIdx_e rfl (Int.natCast_nonneg _) hx ?_ | refine eIf_i (fun _ => ?_) (fun _ => ?_)) <;> (try (conv => lhs; whnf)))
    refine eLoop_i (σ := Nat × Int × Int) (fun z => [(1, sv name), (5, iv z.2.1), (6, iv z.2.2), (11, rv (s.enc 11 Rul.enc)), (12, iv s.l.length), (13, iv k), (18, rv (y.counts.enc 3 Cnt.enc)), (19, iv y.counts.l.length), (20, iv z.1)]) (fun _ => [.box (y.enc.map .ro)] :: fr) (fun z => z.1 ≤ y.counts.l.length ∧ K (bv (overB (thingF name (s.l.drop (k + 1)) (cntF name (y.counts.l.drop z.1) z.2)))) none fr = some r) (fun z => y.counts.l.length - z.1) (fun z L' hI hL' => ?_) _ (0, a, b) ⟨Nat.zero_le _, hC⟩ (by show _ - 0 < _; omega)
    obtain ⟨j, a, b⟩ := z
    obtain ⟨hj, hI⟩ := hI
    simp only at hj hI hL'
    rcases Nat.lt_or_ge j y.counts.l.length with hjl | hjg
    · obtain ⟨c, hcx⟩ : ∃ c, y.counts.l[j]? = some c := ⟨_, List.getElem?_eq_getElem hjl⟩
      rw [drop_succ hcx] at hI
      simp only [cntF] at hI
      conv => lhs; whnf
      repeat' ((first | refine eIf_t ?_ | refine eIf_f ?_ | refine eGet_i rfl ?_ | refine eReq_i rfl ?_ | refine slLen_e ?_ | refine eIf_ct (lt_t hjl) ?_ | refine slIdx_e rfl (Int.natCast_nonneg _) hcx ?_ | refine eIf_i (fun _ => ?_) (fun _ => ?_)) <;> (try (conv => lhs; whnf)))
      · rename_i g
        rw [show eqB c.thing name = true from g, cond_true] at hI
        exact l_eq (hL' (j + 1, maxS a c.least, minS b c.most) ⟨hjl, hI⟩ (by show _ - (j + 1) < _; omega)) (by rw [wrap_up (by omega)]; rfl) rfl
      · rename_i g
        rw [show eqB c.thing name = false from g, cond_false] at hI
        exact l_eq (hL' (j + 1, a, b) ⟨hjl, hI⟩ (by show _ - (j + 1) < _; omega)) (by rw [wrap_up (by omega)]) rfl
    · have : j = y.counts.l.length := by omega
      subst this
      rw [List.drop_length] at hI
      conv => lhs; whnf
      repeat' ((first | refine eIf_t ?_ | refine eIf_f ?_ | refine eGet_i rfl ?_ | refine eReq_i rfl ?_ | refine slLen_e ?_ | refine eIf_cf lt_f ?_ | refine eIf_i (fun _ => ?_) (fun _ => ?_)) <;> (try (conv => lhs; whnf)))
      exact l_eq (hL (k + 1, a, b) ⟨hlt, hI⟩ (by show _ - (k + 1) < _; omega)) (by rw [wrap_up (by omega)]) rfl
  · have : k = s.l.length := by omega
    subst this
    rw [List.drop_length] at hC
    conv => lhs; whnf
    repeat' ((first | refine eIf_t ?_ | refine eIf_f ?_ | refine eGet_i rfl ?_ | refine eReq_i rfl ?_ | refine slLen_e ?_ | refine eIf_cf lt_f ?_ | refine eIf_i (fun _ => ?_) (fun _ => ?_)) <;> (try (conv => lhs; whnf)))
    exact hC
/-! ### things, kinds -/
def addT (x : ByteArray) (out : List ByteArray) : List ByteArray := bif out.any (eqB x) then out else out ++ [x]
def thingsC : List Cnt → List ByteArray → List ByteArray
  | [], o => o
  | c :: l, o => thingsC l (addT c.thing o)
def thingsR : List Rul → List ByteArray → List ByteArray
  | [], o => o
  | x :: l, o => thingsR l (thingsC x.counts.l o)
def thingsS (l : List Rul) : List ByteArray := thingsR l []
theorem addT_len (x : ByteArray) (o : List ByteArray) : (addT x o).length ≤ o.length + 1 := by
  unfold addT
  cases o.any (eqB x) <;> simp
theorem s92t {l : List ByteArray} (hs : l.length < 1000000) {x : ByteArray} (h : K (bv (l.any (eqB x))) none fr = some r) : (CC (n+2)).fn 92 [rv (sealT 1 (l.map encS)), sv x] fr K = some r := by
  rw [seal_enc]
  exact s92 hs h
theorem s61 {s : Sl Rul} (hs : s.l.length < 100) (hc : ∀ x ∈ s.l, x.counts.l.length < 1000) (h : K (rv (Sl.enc 1 encS ⟨0, thingsS s.l⟩)) none fr = some r) : (CC (n+3)).fn 61 [rv (s.enc 11 Rul.enc)] fr K = some r := by
  refine cc q61_ok rfl ?_
  conv => lhs; whnf
  repeat' ((first | refine eIf_t ?_ | refine eIf_f ?_ | refine eGet_i rfl ?_ | refine eReq_i rfl ?_ | refine slLen_e ?_ | refine eIf_i (fun _ => ?_) (fun _ => ?_)) <;> (try (conv => lhs; whnf)))
  refine eLoop_i (R := R) (σ := Nat × List ByteArray) (fun z => [(2, .s (.tsl 1 (z.2.map encS) 0 0)), (7, rv (s.enc 11 Rul.enc)), (8, iv s.l.length), (9, iv z.1)]) (fun z => [.tok 1 z.2.length] :: fr) (fun z => z.1 ≤ s.l.length ∧ z.2.length ≤ 1000 * z.1 ∧ K (rv (Sl.enc 1 encS ⟨0, thingsR (s.l.drop z.1) z.2⟩)) none fr = some r) (fun z => s.l.length - z.1) (fun z L hC hL => ?_) _ (0, []) ⟨Nat.zero_le _, by simp, h⟩ (by show _ - 0 < _; omega)
  obtain ⟨k, o⟩ := z
  obtain ⟨hk, ho, hC⟩ := hC
  simp only at hk ho hC hL
  rcases Nat.lt_or_ge k s.l.length with hlt | hge
  · obtain ⟨y, hx⟩ : ∃ y, s.l[k]? = some y := ⟨_, List.getElem?_eq_getElem hlt⟩
    have hyc := hc y (List.mem_of_getElem? hx)
    rw [drop_succ hx] at hC
    simp only [thingsR] at hC
    conv => lhs; whnf
    repeat' ((first | refine eIf_t ?_ | refine eIf_f ?_ | refine eGet_i rfl ?_ | refine eReq_i rfl ?_ | refine slLen_e ?_ | refine eIf_ct (lt_t hlt) ?_ | refine slIdx_e rfl (Int.natCast_nonneg _) hx ?_ | refine eIf_i (fun _ => ?_) (fun _ => ?_)) <;> (try (conv => lhs; whnf)))
    refine eLoop_i (R := R) (σ := Nat × List ByteArray) (fun z => [(2, .s (.tsl 1 (z.2.map encS) 0 0)), (7, rv (s.enc 11 Rul.enc)), (8, iv s.l.length), (9, iv k), (14, rv (y.counts.enc 3 Cnt.enc)), (15, iv y.counts.l.length), (16, iv z.1)]) (fun z => [.tok 1 z.2.length, .box (y.enc.map .ro)] :: fr) (fun z => z.1 ≤ y.counts.l.length ∧ z.2.length ≤ 1000 * k + z.1 ∧ K (rv (Sl.enc 1 encS ⟨0, thingsR (s.l.drop (k + 1)) (thingsC (y.counts.l.drop z.1) z.2)⟩)) none fr = some r) (fun z => y.counts.l.length - z.1) (fun z L' hI hL' => ?_) _ (0, o) ⟨Nat.zero_le _, ho, hC⟩ (by show _ - 0 < _; omega)
    obtain ⟨j, o⟩ := z
    obtain ⟨hj, ho, hI⟩ := hI
    simp only at hj ho hI hL'
    rcases Nat.lt_or_ge j y.counts.l.length with hjl | hjg
    · obtain ⟨c, hcx⟩ : ∃ c, y.counts.l[j]? = some c := ⟨_, List.getElem?_eq_getElem hjl⟩
      rw [drop_succ hcx] at hI
      simp only [thingsC] at hI
      conv => lhs; whnf
      repeat' ((first | refine eIf_t ?_ | refine eIf_f ?_ | refine eGet_i rfl ?_ | refine eReq_i rfl ?_ | refine slLen_e ?_ | refine eIf_ct (lt_t hjl) ?_ | refine slIdx_e rfl (Int.natCast_nonneg _) hcx ?_ | refine s92t (l := o) (by omega) ?_ | refine slRows_v ?_ | refine eNil_c rfl ?_ | refine eReq_i (by simp [Nat.ble_eq]; omega) ?_ | refine eIf_i (fun _ => ?_) (fun _ => ?_)) <;> (try (conv => lhs; whnf)))
      · rename_i g
        have e : addT c.thing o = o ++ [c.thing] := by rw [addT, nT g]; rfl
        rw [e] at hI
        exact l_eq (hL' (j + 1, o ++ [c.thing]) ⟨hjl, by simp; omega, hI⟩ (by show _ - (j + 1) < _; omega)) (by rw [wrap_up (by omega)]; simp) (by simp)
      · rename_i g
        have e : addT c.thing o = o := by rw [addT, nF g]; rfl
        rw [e] at hI
        exact l_eq (hL' (j + 1, o) ⟨hjl, by show o.length ≤ _; omega, hI⟩ (by show _ - (j + 1) < _; omega)) (by rw [wrap_up (by omega)]) (by simp)
    · have : j = y.counts.l.length := by omega
      subst this
      rw [List.drop_length] at hI
      conv => lhs; whnf
      repeat' ((first | refine eIf_t ?_ | refine eIf_f ?_ | refine eGet_i rfl ?_ | refine eReq_i rfl ?_ | refine slLen_e ?_ | refine eIf_cf lt_f ?_ | refine eIf_i (fun _ => ?_) (fun _ => ?_)) <;> (try (conv => lhs; whnf)))
      exact l_eq (hL (k + 1, o) ⟨hlt, by show o.length ≤ _; omega, hI⟩ (by show _ - (k + 1) < _; omega)) (by rw [wrap_up (by omega)]) (by simp)
  · have : k = s.l.length := by omega
    subst this
    rw [List.drop_length] at hC
    conv => lhs; whnf
    repeat' ((first | refine eIf_t ?_ | refine eIf_f ?_ | refine eGet_i rfl ?_ | refine eReq_i rfl ?_ | refine slLen_e ?_ | refine eIf_cf lt_f ?_ | refine eIf_i (fun _ => ?_) (fun _ => ?_)) <;> (try (conv => lhs; whnf)))
    dsimp only
    rw [seal_enc]
    exact hC
/-- Whether rules contradict each other, of a kind; the things are those with numbers. -/
def contraS (l : List Rul) (kind : Int) (things : List ByteArray) : Bool :=
  bif kind == 1 then forbidS l else bif kind == 2 then (List.range 1440).all (emptyH l) else bif kind == 3 then daysF l 127 == 0 else bif kind == 4 then (List.range 365).all (emptyN l) else thingS (things.getD (kind - 5).toNat ⟨#[]⟩) l
structure RulsOK (l : List Rul) : Prop where
  len : l.length < 100
  t : ∀ x ∈ l, RulT x
  c : ∀ x ∈ l, x.counts.l.length < 1000
theorem s66 {s : Sl Rul} (ok : RulsOK s.l) {things : Sl ByteArray} (ht : things.l.length < 1000000) {kind : Int} (h1 : 1 ≤ kind) (h2 : kind < 5 + things.l.length) (h : K (bv (contraS s.l kind things.l)) none fr = some r) : (CC (n+8)).fn 66 [rv (s.enc 11 Rul.enc), iv kind, rv (things.enc 1 encS)] fr K = some r := by
  have hs := ok.len
  refine cc q66_ok rfl ?_
  by_cases hk : kind < 5
  · have hk' : kind = 1 ∨ kind = 2 ∨ kind = 3 ∨ kind = 4 := by omega
    rcases hk' with rfl | rfl | rfl | rfl
    · conv => lhs; whnf
      repeat' ((first | refine eIf_t ?_ | refine eIf_f ?_ | refine eGet_i rfl ?_ | refine eReq_i rfl ?_ | refine slLen_e ?_ | refine s93 (by omega) ?_ | refine eIf_i (fun _ => ?_) (fun _ => ?_)) <;> (try (conv => lhs; whnf)))
      exact h
    · conv => lhs; whnf
      repeat' ((first | refine eIf_t ?_ | refine eIf_f ?_ | refine eGet_i rfl ?_ | refine eReq_i rfl ?_ | refine slLen_e ?_ | refine s94 (by omega) ok.t ?_ | refine eIf_i (fun _ => ?_) (fun _ => ?_)) <;> (try (conv => lhs; whnf)))
      exact h
    · conv => lhs; whnf
      repeat' ((first | refine eIf_t ?_ | refine eIf_f ?_ | refine eGet_i rfl ?_ | refine eReq_i rfl ?_ | refine slLen_e ?_ | refine s95 (by omega) ?_ | refine eIf_i (fun _ => ?_) (fun _ => ?_)) <;> (try (conv => lhs; whnf)))
      exact h
    · conv => lhs; whnf
      repeat' ((first | refine eIf_t ?_ | refine eIf_f ?_ | refine eGet_i rfl ?_ | refine eReq_i rfl ?_ | refine slLen_e ?_ | refine s96 (by omega) ok.t ?_ | refine eIf_i (fun _ => ?_) (fun _ => ?_)) <;> (try (conv => lhs; whnf)))
      exact h
  · have e1 : (kind == 1) = false := by simp; omega
    have e2 : (kind == 2) = false := by simp; omega
    have e3 : (kind == 3) = false := by simp; omega
    have e4 : (kind == 4) = false := by simp; omega
    simp only [contraS, e1, e2, e3, e4, cond_false] at h
    have hx : things.l[(kind - 5).toNat]? = some (things.l.getD (kind - 5).toNat ⟨#[]⟩) := by
      rw [List.getD_eq_getElem?_getD, List.getElem?_eq_getElem (by omega)]; rfl
    have hw : IntKind.wrap .i64 (kind - 5) = kind - 5 := wrap_id (by omega) (by have := ht; omega)
    conv => lhs; whnf
    repeat' ((first | refine eIf_t ?_ | refine eIf_f ?_ | refine eGet_i rfl ?_ | refine eReq_i rfl ?_ | refine slLen_e ?_ | refine eIf_cf (decide_eq_false hk) ?_ | refine slIdx_e rfl (by rw [hw]; omega) (by rw [hw]; exact hx) ?_ | refine s97 (by omega) (fun x hx => by have := ok.c x hx; omega) ?_ | refine eIf_i (fun _ => ?_) (fun _ => ?_)) <;> (try (conv => lhs; whnf)))
    exact h
end Go.PM.Try

namespace Go.PM.Try
open Go.Proofs
attribute [local irreducible] eIf eReq eGet eNil slLen slRows slIdx slSub slZero slView eFind eLoopN CC Sl.enc
variable {R : Type} [Stops R] [CCW R] {n : Nat} {fr : Frames} {K : PV → Option LB → Frames → Option R} {r : R}
set_option maxRecDepth 8000
set_option linter.unusedSectionVars false

/-- The least kind from k on of which rules contradict each other; 0: none. -/
def kindF (l : List Rul) (ts : List ByteArray) : Nat → Int → Int
  | 0, _ => 0
  | n + 1, k => bif contraS l k ts then k else kindF l ts n (k + 1)
def kindS (l : List Rul) : Int := kindF l (thingsS l) (4 + (thingsS l).length) 1
theorem thingsC_len : ∀ (l : List Cnt) (o : List ByteArray), (thingsC l o).length ≤ o.length + l.length
  | [], o => by simp [thingsC]
  | c :: l, o => by
    have h1 := thingsC_len l (addT c.thing o)
    have h2 := addT_len c.thing o
    simp only [thingsC, List.length_cons]
    omega
theorem thingsR_len : ∀ (l : List Rul) (o : List ByteArray), (∀ x ∈ l, x.counts.l.length < 1000) → (thingsR l o).length ≤ o.length + 1000 * l.length
  | [], o, _ => by simp [thingsR]
  | x :: l, o, h => by
    have h1 := thingsR_len l (thingsC x.counts.l o) fun y hy => h y (by simp [hy])
    have h2 := thingsC_len x.counts.l o
    have h3 := h x (by simp)
    simp only [thingsR, List.length_cons]
    omega
theorem thingsS_len {l : List Rul} (ok : RulsOK l) : (thingsS l).length < 1000000 := by
  have h1 := thingsR_len l [] ok.c
  have h2 := ok.len
  simp only [List.length_nil] at h1
  show (thingsR l []).length < _
  omega
theorem s60 {s : Sl Rul} (ok : RulsOK s.l) (h : K (iv (kindS s.l)) none fr = some r) : (CC (n+9)).fn 60 [rv (s.enc 11 Rul.enc)] fr K = some r := by
  have ht := thingsS_len ok
  refine cc q60_ok rfl ?_
  conv => lhs; whnf
  repeat' ((first | refine eIf_t ?_ | refine eIf_f ?_ | refine eGet_i rfl ?_ | refine eReq_i rfl ?_ | refine slLen_e ?_ | refine s61 ok.len ok.c ?_ | refine eIf_i (fun _ => ?_) (fun _ => ?_)) <;> (try (conv => lhs; whnf)))
  refine eLoop_i (R := R) (σ := Int) (fun k => [(0, rv (s.enc 11 Rul.enc)), (3, rv (Sl.enc 1 encS ⟨0, thingsS s.l⟩)), (4, iv k)]) (fun _ => [] :: fr) (fun k => 1 ≤ k ∧ k ≤ 5 + (thingsS s.l).length ∧ K (iv (kindF s.l (thingsS s.l) (5 + (thingsS s.l).length - k).toNat k)) none fr = some r) (fun k => (5 + (thingsS s.l).length - k).toNat) (fun k L hC hL => ?_) _ 1 ⟨by omega, by omega, by rw [show (5 + ((thingsS s.l).length : Int) - 1).toNat = 4 + (thingsS s.l).length by omega]; exact h⟩ (by show (5 + ((thingsS s.l).length : Int) - 1).toNat < _; omega)
  obtain ⟨h1, h2, hC⟩ := hC
  have hw : IntKind.wrap .i64 (5 + ((thingsS s.l).length : Int)) = 5 + (thingsS s.l).length := wrap_id (by omega) (by omega)
  by_cases hk : k < 5 + (thingsS s.l).length
  · rw [show (5 + ((thingsS s.l).length : Int) - k).toNat = (5 + ((thingsS s.l).length : Int) - (k + 1)).toNat + 1 by omega] at hC
    simp only [kindF] at hC
    conv => lhs; whnf
    repeat' ((first | refine eIf_t ?_ | refine eIf_f ?_ | refine eGet_i rfl ?_ | refine eReq_i rfl ?_ | refine slLen_e ?_ | refine eIf_ct (show decide (k < IntKind.wrap .i64 (5 + ((thingsS s.l).length : Int))) = true by rw [hw]; exact decide_eq_true hk) ?_ | refine s66 ok (things := ⟨0, thingsS s.l⟩) ht h1 hk ?_ | refine eIf_i (fun _ => ?_) (fun _ => ?_)) <;> (try (conv => lhs; whnf)))
    · rename_i g
      rw [show contraS s.l k (thingsS s.l) = true from g, cond_true] at hC
      exact hC
    · rename_i g
      rw [show contraS s.l k (thingsS s.l) = false from g, cond_false] at hC
      exact l_eq (hL (k + 1) ⟨by omega, by omega, hC⟩ (by omega)) (by rw [wrap_id (by omega) (by omega)]) rfl
  · rw [show (5 + ((thingsS s.l).length : Int) - k).toNat = 0 by omega] at hC
    conv => lhs; whnf
    repeat' ((first | refine eIf_t ?_ | refine eIf_f ?_ | refine eGet_i rfl ?_ | refine eReq_i rfl ?_ | refine slLen_e ?_ | refine eIf_cf (show decide (k < IntKind.wrap .i64 (5 + ((thingsS s.l).length : Int))) = false by rw [hw]; exact decide_eq_false hk) ?_ | refine eIf_i (fun _ => ?_) (fun _ => ?_)) <;> (try (conv => lhs; whnf)))
    exact hC
/-! ### copies, and a copy without one -/
theorem s62 {s : Sl Rul} (hne : s.l ≠ []) (hl : s.l.length < 1000000) (h : K (.s (.sl 0 0 0 s.l.length)) (some (.arr 11 (s.l.map Rul.enc))) fr = some r) : (CC (n+1)).fn 62 [rv (s.enc 11 Rul.enc)] fr K = some r := by
  rw [Sl.enc_cons hne]
  refine cc q62_ok rfl ?_
  conv => lhs; whnf
  repeat' ((first | refine eIf_t ?_ | refine eIf_f ?_ | refine eGet_i rfl ?_ | refine eReq_i rfl ?_ | refine slLen_e ?_ | refine slRows_v ?_ | refine eNil_ne (by simpa using hne) ?_ | refine eReq_i (by simp [Nat.ble_eq]; omega) ?_ | refine eIf_i (fun _ => ?_) (fun _ => ?_)) <;> (try (conv => lhs; whnf)))
  refine eReq_i (by simp) ?_
  rw [List.length_map]
  exact h
theorem s63 {s : Sl Int} (hne : s.l ≠ []) (hl : s.l.length < 1000000) (h : K (.s (.sl 0 0 0 s.l.length)) (some (.arr 1 (s.l.map encI))) fr = some r) : (CC (n+1)).fn 63 [rv (s.enc 1 encI)] fr K = some r := by
  rw [Sl.enc_cons hne]
  refine cc q63_ok rfl ?_
  conv => lhs; whnf
  repeat' ((first | refine eIf_t ?_ | refine eIf_f ?_ | refine eGet_i rfl ?_ | refine eReq_i rfl ?_ | refine slLen_e ?_ | refine slRows_v ?_ | refine eNil_ne (by simpa using hne) ?_ | refine eReq_i (by simp [Nat.ble_eq]; omega) ?_ | refine eIf_i (fun _ => ?_) (fun _ => ?_)) <;> (try (conv => lhs; whnf)))
  refine eReq_i (by simp) ?_
  rw [List.length_map]
  exact h
/-- A row less: what is left, and one that is cleared. -/
def delRows (R : List (List RV)) (len i : Nat) (z : List RV) : List (List RV) := splice (splice R i ((R.drop (i + 1)).take (len - (i + 1)))) (len - 1) [z]
theorem splice_len {α : Type} (l : List α) (off : Nat) (cs : List α) (h : off + cs.length ≤ l.length) : (splice l off cs).length = l.length := by
  unfold splice; simp; omega
theorem delRows_len {R : List (List RV)} {len i : Nat} {z : List RV} (hi : i < len) (hl : len ≤ R.length) : (delRows R len i z).length = R.length := by
  unfold delRows
  rw [splice_len _ _ _ (by rw [splice_len _ _ _ (by simp; omega)]; simp; omega), splice_len _ _ _ (by simp; omega)]
theorem delRows_take {α : Type} {f : α → List RV} {R : List (List RV)} {l : List α} {i : Nat} {z : List RV} (hR : R.take l.length = l.map f) (hi : i < l.length) : (delRows R l.length i z).take (l.length - 1) = (l.eraseIdx i).map f := by
  have hlen : l.length ≤ R.length := by
    have := congrArg List.length hR
    simp at this; omega
  have e1 : (l.eraseIdx i).map f = (R.take i) ++ ((R.drop (i + 1)).take (l.length - (i + 1))) := by
    rw [List.eraseIdx_eq_take_drop_succ, List.map_append, List.map_take, List.map_drop, ← hR, List.take_take, List.drop_take, show min i l.length = i by omega]
  rw [e1]
  unfold delRows
  have h1 : (splice (splice R i ((R.drop (i + 1)).take (l.length - (i + 1)))) (l.length - 1) [z]).take (l.length - 1) = (splice R i ((R.drop (i + 1)).take (l.length - (i + 1)))).take (l.length - 1) := by
    rw [splice, List.append_assoc, List.take_append, List.take_take, List.length_take, splice_len _ _ _ (by simp; omega)]
    simp
    omega
  rw [h1, splice, List.take_append, List.take_of_length_le (by simp; omega)]
  have : (R.take i ++ (R.drop (i + 1)).take (l.length - (i + 1))).length = l.length - 1 := by simp; omega
  rw [this]; simp
theorem kfr {v v' : PV} {fr0 fr' : Frames} (h : K v none fr' = some r) (ev : v' = v) (ef : fr0 = fr') : K v' none fr0 = some r := by rw [ev, ef]; exact h
def zRow : List RV := [.str ⟨#[]⟩, .nils, .nils, .int .i64 0, .int .i64 0, .int .i64 0, .int .i64 0, .int .i64 0, .bool false, .nils, .int .i64 0]
theorem s65 {l : List Rul} {R0 : List (List RV)} {up : Frames} {i : Nat} (hi : i < l.length) (hl : R0.length < 1000000) (hR : R0.take l.length = l.map Rul.enc) (h : K (.s (.sl 0 0 0 (l.length - 1))) none ((.arr 11 (delRows R0 l.length i zRow) :: []) :: up) = some r) : (CC (n+1)).fn 65 [.s (.sl 1 0 0 l.length), iv i, iv ((i : Int) + 1)] ((.arr 11 R0 :: []) :: up) K = some r := by
  refine cc q65_ok rfl ?_
  have hlen : l.length ≤ R0.length := by
    have := congrArg List.length hR
    simp at this; omega
  have hle : Int.toNat (i : Int) = i := by omega
  have hle' : Int.toNat ((i : Int) + 1) = i + 1 := by omega
  have hz : ((i : Int) == 0 && (i : Int) + 1 == 0 && ((l.length : Nat) : Int) == 0) = false := by simp; omega
  conv => lhs; whnf
  repeat' ((first | refine eIf_t ?_ | refine eIf_f ?_ | refine eGet_i rfl ?_ | refine eReq_i rfl ?_ | refine slLen_e ?_ | refine eIf_i (fun _ => ?_) (fun _ => ?_)) <;> (try (conv => lhs; whnf)))
  rw [hz]
  conv => lhs; whnf
  repeat' ((first | refine eIf_t ?_ | refine eIf_f ?_ | refine eGet_i rfl ?_ | refine eReq_i rfl ?_ | refine slLen_e ?_ | refine eReq_i (by simp; omega) ?_ | refine eIf_cf (show ((i : Int) == (i : Int) + 1) = false by simp; omega) ?_ | refine eIf_i (fun _ => ?_) (fun _ => ?_)) <;> (try (conv => lhs; whnf)))
  by_cases hlt : i + 1 < l.length
  · refine eNil_ne (by
      intro e
      have := congrArg List.length e
      simp at this
      omega) ?_
    conv => lhs; whnf
    repeat' ((first | refine eIf_t ?_ | refine eIf_f ?_ | refine eGet_i rfl ?_ | refine eReq_i rfl ?_ | refine slLen_e ?_ | refine eReq_i (by simp [Nat.ble_eq]; omega) ?_ | refine eIf_i (fun _ => ?_) (fun _ => ?_)) <;> (try (conv => lhs; whnf)))
    refine eReq_i (by rw [splice_len _ _ _ (by simp; omega)]; simp; omega) ?_
    conv => lhs; whnf
    repeat' ((first | refine eIf_t ?_ | refine eIf_f ?_ | refine eGet_i rfl ?_ | refine eReq_i rfl ?_ | refine slLen_e ?_ | refine eIf_i (fun _ => ?_) (fun _ => ?_)) <;> (try (conv => lhs; whnf)))
    refine eReq_i (by rw [splice_len _ _ _ (by simp; omega)]; simp [Nat.ble_eq]; omega) ?_
    conv => lhs; whnf
    repeat' ((first | refine eIf_t ?_ | refine eIf_f ?_ | refine eGet_i rfl ?_ | refine eReq_i rfl ?_ | refine slLen_e ?_ | refine eIf_i (fun _ => ?_) (fun _ => ?_)) <;> (try (conv => lhs; whnf)))
    have e1 : (List.take ((l.length : Int).toNat - ((i : Int) + 1).toNat) (List.drop (0 + ((i : Int) + 1).toNat) R0)).length = l.length - (i + 1) := by simp; omega
    rw [e1]
    refine kfr h (by congr 2; simp; omega) ?_
    show _ :: up = _
    have e2 : Int.toNat 0 = 0 := rfl
    have e3 : 0 + (i : Int).toNat - 0 = i := by omega
    simp only [e2, hle, hle', Int.toNat_natCast, Nat.zero_add, Nat.sub_zero, Nat.add_zero]
    rw [show i + (l.length - (i + 1)) = l.length - 1 by omega, show l.length - (l.length - 1) = 1 by omega]
    rfl
  · refine eNil_n (by
      apply List.eq_nil_of_length_eq_zero
      simp
      omega) ?_
    conv => lhs; whnf
    repeat' ((first | refine eIf_t ?_ | refine eIf_f ?_ | refine eGet_i rfl ?_ | refine eReq_i rfl ?_ | refine slLen_e ?_ | refine eReq_i (by simp [Nat.ble_eq]; omega) ?_ | refine eIf_i (fun _ => ?_) (fun _ => ?_)) <;> (try (conv => lhs; whnf)))
    refine kfr h (by congr 2; simp; omega) ?_
    show _ :: up = _
    have e2 : Int.toNat 0 = 0 := rfl
    have e4 : (List.drop (i + 1) R0).take (l.length - (i + 1)) = [] := by rw [show l.length - (i + 1) = 0 by omega]; simp
    simp only [e2, hle, hle', Int.toNat_natCast, Nat.zero_add, Nat.sub_zero, Nat.add_zero, delRows, e4]
    have e5 : splice R0 i [] = R0 := by simp [splice]
    rw [e5, show l.length - i = 1 by omega, show l.length - 1 = i by omega]
    rfl
theorem s67 {l : List Int} {loc : List LB} {b0 b1 b2 b3 b4 b5 b6 b7 b8 b9 b10 : LB} {rest : List LB} {R0 : List (List RV)} {up : Frames} {i : Nat} (hi : i < l.length) (hl : R0.length < 1000000) (hR : R0.take l.length = l.map encI) (h : K (.s (.sl 1 11 0 (l.length - 1))) none (loc :: (b0 :: b1 :: b2 :: b3 :: b4 :: b5 :: b6 :: b7 :: b8 :: b9 :: b10 :: .arr 1 (delRows R0 l.length i [.int .i64 0]) :: rest) :: up) = some r) : (CC (n+1)).fn 67 [.s (.sl 2 11 0 l.length), iv i, iv ((i : Int) + 1)] (loc :: (b0 :: b1 :: b2 :: b3 :: b4 :: b5 :: b6 :: b7 :: b8 :: b9 :: b10 :: .arr 1 R0 :: rest) :: up) K = some r := by
  refine cc q67_ok rfl ?_
  have hlen : l.length ≤ R0.length := by
    have := congrArg List.length hR
    simp at this; omega
  have hle : Int.toNat (i : Int) = i := by omega
  have hle' : Int.toNat ((i : Int) + 1) = i + 1 := by omega
  have hz : ((i : Int) == 0 && (i : Int) + 1 == 0 && ((l.length : Nat) : Int) == 0) = false := by simp; omega
  conv => lhs; whnf
  repeat' ((first | refine eIf_t ?_ | refine eIf_f ?_ | refine eGet_i rfl ?_ | refine eReq_i rfl ?_ | refine slLen_e ?_ | refine eIf_i (fun _ => ?_) (fun _ => ?_)) <;> (try (conv => lhs; whnf)))
  rw [hz]
  conv => lhs; whnf
  repeat' ((first | refine eIf_t ?_ | refine eIf_f ?_ | refine eGet_i rfl ?_ | refine eReq_i rfl ?_ | refine slLen_e ?_ | refine eReq_i (by simp; omega) ?_ | refine eIf_cf (show ((i : Int) == (i : Int) + 1) = false by simp; omega) ?_ | refine eIf_i (fun _ => ?_) (fun _ => ?_)) <;> (try (conv => lhs; whnf)))
  by_cases hlt : i + 1 < l.length
  · refine eNil_ne (by
      intro e
      have := congrArg List.length e
      simp at this
      omega) ?_
    conv => lhs; whnf
    repeat' ((first | refine eIf_t ?_ | refine eIf_f ?_ | refine eGet_i rfl ?_ | refine eReq_i rfl ?_ | refine slLen_e ?_ | refine eReq_i (by simp [Nat.ble_eq]; omega) ?_ | refine eIf_i (fun _ => ?_) (fun _ => ?_)) <;> (try (conv => lhs; whnf)))
    refine eReq_i (by rw [splice_len _ _ _ (by simp; omega)]; simp; omega) ?_
    conv => lhs; whnf
    repeat' ((first | refine eIf_t ?_ | refine eIf_f ?_ | refine eGet_i rfl ?_ | refine eReq_i rfl ?_ | refine slLen_e ?_ | refine eIf_i (fun _ => ?_) (fun _ => ?_)) <;> (try (conv => lhs; whnf)))
    refine eReq_i (by rw [splice_len _ _ _ (by simp; omega)]; simp [Nat.ble_eq]; omega) ?_
    conv => lhs; whnf
    repeat' ((first | refine eIf_t ?_ | refine eIf_f ?_ | refine eGet_i rfl ?_ | refine eReq_i rfl ?_ | refine slLen_e ?_ | refine eIf_i (fun _ => ?_) (fun _ => ?_)) <;> (try (conv => lhs; whnf)))
    have e1 : (List.take ((l.length : Int).toNat - ((i : Int) + 1).toNat) (List.drop (0 + ((i : Int) + 1).toNat) R0)).length = l.length - (i + 1) := by simp; omega
    rw [e1]
    refine kfr h (by congr 2; simp; omega) ?_
    show loc :: _ :: up = _
    have e2 : Int.toNat 0 = 0 := rfl
    have e3 : 0 + (i : Int).toNat - 0 = i := by omega
    simp only [e2, hle, hle', Int.toNat_natCast, Nat.zero_add, Nat.sub_zero, Nat.add_zero]
    rw [show i + (l.length - (i + 1)) = l.length - 1 by omega, show l.length - (l.length - 1) = 1 by omega]
    rfl
  · refine eNil_n (by
      apply List.eq_nil_of_length_eq_zero
      simp
      omega) ?_
    conv => lhs; whnf
    repeat' ((first | refine eIf_t ?_ | refine eIf_f ?_ | refine eGet_i rfl ?_ | refine eReq_i rfl ?_ | refine slLen_e ?_ | refine eReq_i (by simp [Nat.ble_eq]; omega) ?_ | refine eIf_i (fun _ => ?_) (fun _ => ?_)) <;> (try (conv => lhs; whnf)))
    refine kfr h (by congr 2; simp; omega) ?_
    show loc :: _ :: up = _
    have e2 : Int.toNat 0 = 0 := rfl
    have e4 : (List.drop (i + 1) R0).take (l.length - (i + 1)) = [] := by rw [show l.length - (i + 1) = 0 by omega]; simp
    simp only [e2, hle, hle', Int.toNat_natCast, Nat.zero_add, Nat.sub_zero, Nat.add_zero, delRows, e4]
    have e5 : splice R0 i [] = R0 := by simp [splice]
    rw [e5, show l.length - i = 1 by omega, show l.length - 1 = i by omega]
    rfl
end Go.PM.Try

namespace Go.PM.Try
open Go.Proofs
attribute [local irreducible] eIf eReq eGet eNil slLen slRows slIdx slSub slZero slView eFind eLoopN CC Sl.enc
variable {R : Type} [Stops R] [CCW R] {n : Nat} {fr : Frames} {K : PV → Option LB → Frames → Option R} {r : R}
set_option maxRecDepth 8000
set_option linter.unusedSectionVars false

theorem storable_enc {α : Type} {sz : Nat} {f : α → List RV} (s : Sl α) : storable (PV.s (SV.ro (Sl.enc sz f s))) = true := by
  obtain ⟨t, l⟩ := s
  unfold Sl.enc
  cases l with
  | nil => simp only; split <;> rfl
  | cons a l => rfl
theorem cellsOf_enc {α : Type} {sz : Nat} {f : α → List RV} (s : Sl α) : cellsOf (PV.s (SV.ro (Sl.enc sz f s))) = [SV.ro (Sl.enc sz f s)] := by
  obtain ⟨t, l⟩ := s
  unfold Sl.enc
  cases l with
  | nil => simp only; split <;> rfl
  | cons a l => rfl
theorem s65w {l : List Rul} {R0 : List (List RV)} {up : Frames} {i : Nat} {x : Int} (hx : x = (i : Int) + 1) (hi : i < l.length) (hl : R0.length < 1000000) (hR : R0.take l.length = l.map Rul.enc) (h : K (.s (.sl 0 0 0 (l.length - 1))) none ((.arr 11 (delRows R0 l.length i zRow) :: []) :: up) = some r) : (CC (n+1)).fn 65 [.s (.sl 1 0 0 l.length), iv i, iv x] ((.arr 11 R0 :: []) :: up) K = some r := by
  subst hx; exact s65 hi hl hR h
theorem s67w {l : List Int} {loc : List LB} {b0 b1 b2 b3 b4 b5 b6 b7 b8 b9 b10 : LB} {rest : List LB} {R0 : List (List RV)} {up : Frames} {i len : Nat} {x : Int} (hx : x = (i : Int) + 1) (hle : len = l.length) (hi : i < l.length) (hl : R0.length < 1000000) (hR : R0.take l.length = l.map encI) (h : K (.s (.sl 1 11 0 (l.length - 1))) none (loc :: (b0 :: b1 :: b2 :: b3 :: b4 :: b5 :: b6 :: b7 :: b8 :: b9 :: b10 :: .arr 1 (delRows R0 l.length i [.int .i64 0]) :: rest) :: up) = some r) :
    (CC (n+1)).fn 67 [.s (.sl 2 11 0 len), iv i, iv x] (loc :: (b0 :: b1 :: b2 :: b3 :: b4 :: b5 :: b6 :: b7 :: b8 :: b9 :: b10 :: .arr 1 R0 :: rest) :: up) K = some r := by
  subst hx; subst hle; exact s67 hi hl hR h
theorem RulsOK.erase {l : List Rul} (h : RulsOK l) (i : Nat) : RulsOK (l.eraseIdx i) :=
  ⟨by have := List.length_eraseIdx_le (l := l) (i := i); have := h.len; omega, fun x hx => h.t x (List.mem_of_mem_eraseIdx hx), fun x hx => h.c x (List.mem_of_mem_eraseIdx hx)⟩
def confFr (kind : Int) (ts : List ByteArray) (fz R : List (List RV)) (left : List Rul) (len : Nat) : List LB :=
  [.box [.ro (.int .i64 kind)], .box [.ro (Sl.enc 1 encS ⟨0, ts⟩)], .none, .none, .none, .none, .froz 11 fz, .none, .none, .none, .none, .arr 1 R, .box [.ro (Sl.enc 11 Rul.enc ⟨2, left⟩)], .box [.sl 0 11 0 len]]
theorem s64 {l : List Rul} {nums : List Int} {fz R0 : List (List RV)} {kind : Int} {ts : List ByteArray} {i : Nat} (ok : RulsOK l) (hts : ts.length < 1000000) (hk1 : 1 ≤ kind) (hk2 : kind < 5 + ts.length) (hi : i < l.length) (hnl : nums.length = l.length) (hl : R0.length < 1000000) (hR : R0.take nums.length = nums.map encI)
    (h : K (rv (.tup [])) none (bif contraS (l.eraseIdx i) kind ts then confFr kind ts fz (delRows R0 nums.length i [.int .i64 0]) (l.eraseIdx i) (nums.length - 1) :: fr else confFr kind ts fz R0 l nums.length :: fr) = some r) :
    (CC (n+9)).fn 64 [iv i, .s (.ptr 1 12 0 0), .s (.ptr 1 0 0 0), .s (.ptr 1 1 0 0), .s (.ptr 1 13 0 0)] (confFr kind ts fz R0 l nums.length :: fr) K = some r := by
  have hne : l ≠ [] := fun e => by rw [e] at hi; simp at hi
  have hlen := ok.len
  have hei : (l.eraseIdx i).length = l.length - 1 := by rw [List.length_eraseIdx, if_pos hi]
  have hw : IntKind.i64.wrap ((i : Int) + 1) = (i : Int) + 1 := wrap_id (by omega) (by omega)
  refine cc q64_ok rfl ?_
  conv => lhs; whnf
  repeat' ((first | refine eIf_t ?_ | refine eIf_f ?_ | refine eGet_i rfl ?_ | refine eReq_i rfl ?_ | refine slLen_e ?_ | refine s62 (s := ⟨2, l⟩) hne (by show l.length < _; omega) ?_ | refine s65w (l := l) hw hi (by simp; omega) (by rw [List.take_of_length_le (by simp)]) ?_ | refine slView_e (f := Rul.enc) (l := l.eraseIdx i) (by rw [List.drop_zero]; exact delRows_take (by rw [List.take_of_length_le (by simp)]) hi) ?_ | refine s66 (s := ⟨2, l.eraseIdx i⟩) (things := ⟨0, ts⟩) (ok.erase i) hts hk1 hk2 ?_ | refine s67w (l := nums) hw rfl (by omega) hl hR ?_ | refine eIf_i (fun _ => ?_) (fun _ => ?_)) <;> (try (conv => lhs; whnf)))
  · rename_i g
    rw [show contraS (l.eraseIdx i) kind ts = true from g, cond_true] at h
    rw [storable_enc, cellsOf_enc]
    conv => lhs; whnf
    repeat' ((first | refine eIf_t ?_ | refine eIf_f ?_ | refine eGet_i rfl ?_ | refine eReq_i rfl ?_ | refine slLen_e ?_ | refine eIf_i (fun _ => ?_) (fun _ => ?_)) <;> (try (conv => lhs; whnf)))
    exact h
  · rename_i g
    rw [show contraS (l.eraseIdx i) kind ts = false from g, cond_false] at h
    exact h
theorem s64t {l : List Rul} {nums : List Int} {fz R0 : List (List RV)} {kind : Int} {ts : List ByteArray} {i : Nat} {x : Int} (hx : x = (i : Int)) (ok : RulsOK l) (hts : ts.length < 1000000) (hk1 : 1 ≤ kind) (hk2 : kind < 5 + ts.length) (hi : i < l.length) (hnl : nums.length = l.length) (hl : R0.length < 1000000) (hR : R0.take nums.length = nums.map encI) (hc : contraS (l.eraseIdx i) kind ts = true)
    (h : K (rv (.tup [])) none (confFr kind ts fz (delRows R0 nums.length i [.int .i64 0]) (l.eraseIdx i) (nums.length - 1) :: fr) = some r) :
    (CC (n+9)).fn 64 [iv x, .s (.ptr 1 12 0 0), .s (.ptr 1 0 0 0), .s (.ptr 1 1 0 0), .s (.ptr 1 13 0 0)] (confFr kind ts fz R0 l nums.length :: fr) K = some r := by
  subst hx
  exact s64 ok hts hk1 hk2 hi hnl hl hR (by rw [hc]; exact h)
theorem s64f {l : List Rul} {nums : List Int} {fz R0 : List (List RV)} {kind : Int} {ts : List ByteArray} {i : Nat} {x : Int} (hx : x = (i : Int)) (ok : RulsOK l) (hts : ts.length < 1000000) (hk1 : 1 ≤ kind) (hk2 : kind < 5 + ts.length) (hi : i < l.length) (hnl : nums.length = l.length) (hl : R0.length < 1000000) (hR : R0.take nums.length = nums.map encI) (hc : contraS (l.eraseIdx i) kind ts = false)
    (h : K (rv (.tup [])) none (confFr kind ts fz R0 l nums.length :: fr) = some r) :
    (CC (n+9)).fn 64 [iv x, .s (.ptr 1 12 0 0), .s (.ptr 1 0 0 0), .s (.ptr 1 1 0 0), .s (.ptr 1 13 0 0)] (confFr kind ts fz R0 l nums.length :: fr) K = some r := by
  subst hx
  exact s64 ok hts hk1 hk2 hi hnl hl hR (by rw [hc]; exact h)
/-- One condition after another is left out, where the others contradict each other still. -/
def dropF (kind : Int) (ts : List ByteArray) : Nat → List Rul × List Int → List Rul × List Int
  | 0, s => s
  | i + 1, s => dropF kind ts i (bif contraS (s.1.eraseIdx i) kind ts then (s.1.eraseIdx i, s.2.eraseIdx i) else s)
def conflS (x : Rls) : Int × Sl Int := bif kindS x.list.l == 0 then (0, ⟨0, []⟩) else (kindS x.list.l, ⟨2, (dropF (kindS x.list.l) (thingsS x.list.l) x.list.l.length (x.list.l, x.numbers.l)).2⟩)
def conflR (l : List Aut) (t : Trp) (p : Int) : Int × Sl Int := bif findE l t p == 0 then (match (deskS l t).2[p.toNat]? with
  | some x => conflS x
  | none => (0, ⟨0, []⟩)) else (0, ⟨0, []⟩)
theorem ruls_ok {x : Rls} (ok : RlsOK x) : RulsOK x.list.l := by
  refine ⟨by have := ok.len; omega, fun y hy => RulT.of (ok.rules y hy), fun y hy => ?_⟩
  have := ok.rules y hy
  simp only [ruleS, Bool.and_eq_true, decide_eq_true_eq] at this
  omega
theorem kindF_range (l : List Rul) (ts : List ByteArray) : ∀ (n : Nat) (k : Int), 1 ≤ k → kindF l ts n k ≠ 0 → k ≤ kindF l ts n k ∧ kindF l ts n k < k + n ∧ contraS l (kindF l ts n k) ts = true
  | 0, k, _, h => by simp [kindF] at h
  | n + 1, k, hk, h => by
    cases hc : contraS l k ts with
    | true =>
      have e : kindF l ts (n + 1) k = k := by simp only [kindF, hc, cond_true]
      rw [e]
      exact ⟨Int.le_refl _, by omega, hc⟩
    | false =>
      have e : kindF l ts (n + 1) k = kindF l ts n (k + 1) := by simp only [kindF, hc, cond_false]
      rw [e] at h ⊢
      obtain ⟨h1, h2, h3⟩ := kindF_range l ts n (k + 1) (by omega) h
      exact ⟨by omega, by omega, h3⟩
theorem kindS_range {l : List Rul} (h : kindS l ≠ 0) : 1 ≤ kindS l ∧ kindS l < 5 + (thingsS l).length ∧ contraS l (kindS l) (thingsS l) = true := by
  obtain ⟨h1, h2, h3⟩ := kindF_range l (thingsS l) (4 + (thingsS l).length) 1 (by omega) h
  have e : kindS l = kindF l (thingsS l) (4 + (thingsS l).length) 1 := rfl
  exact ⟨h1, by rw [e]; omega, h3⟩
theorem emptyH_nil (m : Nat) (hm : 0 < m) : (List.range m).all (emptyH []) = false := by
  rw [List.all_eq_false]
  exact ⟨0, by simpa using hm, by simp [emptyH]⟩
theorem emptyN_nil (m : Nat) (hm : 0 < m) : (List.range m).all (emptyN []) = false := by
  rw [List.all_eq_false]
  exact ⟨0, by simpa using hm, by simp [emptyN]⟩
theorem kindS_nil : kindS [] = 0 := by
  show kindF [] [] 4 1 = 0
  have c1 : contraS [] 1 [] = false := rfl
  have c2 : contraS [] (1 + 1) [] = false := emptyH_nil 1440 (by omega)
  have c3 : contraS [] (1 + 1 + 1) [] = false := rfl
  have c4 : contraS [] (1 + 1 + 1 + 1) [] = false := emptyN_nil 365 (by omega)
  simp only [kindF, c1, c2, c3, c4, cond_false]
theorem s25 {s : Sl Aut} {t : Trp} {p : Int} (h : K (rv (.tup [.int .i64 (conflR s.l t p).1, Sl.enc 1 encI (conflR s.l t p).2, .int .i64 (findE s.l t p)])) none fr = some r) : (CC (n+19)).fn 25 [rv (s.enc 4 Aut.enc), gv t.enc, iv p] fr K = some r := by
  refine cc q25_ok rfl ?_
  by_cases h0 : findE s.l t p = 0
  · have b0 : (findE s.l t p == 0) = true := by simpa using h0
    conv => lhs; whnf
    repeat' ((first | refine eIf_t ?_ | refine eIf_f ?_ | refine eGet_i rfl ?_ | refine eReq_i rfl ?_ | refine slLen_e ?_ | refine s56o h0 (fun x hx => ?_) | refine eIf_i (fun _ => ?_) (fun _ => ?_)) <;> (try (conv => lhs; whnf)))
    obtain ⟨hb, h1, h2⟩ := findE_ok h0
    obtain ⟨p', hp', hx'⟩ := deskS_get (beginS_ok hb).auth hx
    have ok : RlsOK x := by rw [hx']; exact ownRls_ok hb (List.mem_of_getElem? hp') (firstN s.l t p.toNat)
    have hnn : x.numbers.l.length = x.list.l.length := by rw [hx']; simp [ownRls, numsR]
    have e1 : conflR s.l t p = conflS x := by simp only [conflR, b0, cond_true, hx]
    rw [e1, h0] at h
    clear hx' hp' hx b0 e1
    have rok := ruls_ok ok
    have l24 := ok.len
    conv => lhs; whnf
    repeat' ((first | refine eIf_t ?_ | refine eIf_f ?_ | refine eGet_i rfl ?_ | refine eReq_i rfl ?_ | refine slLen_e ?_ | refine s60 rok ?_ | refine s61 rok.len rok.c ?_ | refine eIf_i (fun _ => ?_) (fun _ => ?_)) <;> (try (conv => lhs; whnf)))
    · rename_i g
      have g' : kindS x.list.l = 0 := by simpa using g
      have e2 : conflS x = (0, ⟨0, []⟩) := by simp only [conflS, g, cond_true]
      rw [e2] at h
      simp only at h
      rw [← nils_enc] at h
      rw [g']
      exact h
    rename_i g
    have g' : kindS x.list.l ≠ 0 := by simpa using g
    have e2 : conflS x = (kindS x.list.l, ⟨2, (dropF (kindS x.list.l) (thingsS x.list.l) x.list.l.length (x.list.l, x.numbers.l)).2⟩) := by simp only [conflS, g, cond_false]
    rw [e2] at h
    simp only at h
    clear e2
    have hne : x.list.l ≠ [] := fun e => g' (by rw [e]; exact kindS_nil)
    have hpos : 0 < x.list.l.length := List.length_pos_iff.2 hne
    rw [storable_enc, cellsOf_enc]
    conv => lhs; whnf
    repeat' ((first | refine eIf_t ?_ | refine eIf_f ?_ | refine eGet_i rfl ?_ | refine eReq_i rfl ?_ | refine slLen_e ?_ | refine s62 hne (by omega) ?_ | refine s63 (fun e => by rw [e] at hnn; simp at hnn; omega) (by omega) ?_ | refine slView_e (f := Rul.enc) (l := x.list.l) (by rw [List.drop_zero, List.take_of_length_le (by simp)]) ?_ | refine eIf_i (fun _ => ?_) (fun _ => ?_)) <;> (try (conv => lhs; whnf)))
    rw [storable_enc, cellsOf_enc]
    obtain ⟨k1, k2, _⟩ := kindS_range g'
    have hts := thingsS_len rok
    generalize kindS x.list.l = kind at *
    generalize thingsS x.list.l = ts at *
    conv => lhs; whnf
    repeat' ((first | refine eIf_t ?_ | refine eIf_f ?_ | refine eGet_i rfl ?_ | refine eReq_i rfl ?_ | refine slLen_e ?_ | refine eIf_i (fun _ => ?_) (fun _ => ?_)) <;> (try (conv => lhs; whnf)))
    have hw : IntKind.i64.wrap ((x.list.l.length : Int) - 1) = (x.list.l.length : Int) - 1 := wrap_id (by omega) (by omega)
    rw [hw]
    refine eLoop_i (R := R) (σ := Nat × List Rul × List Int × List (List RV)) (fun z => [(11, .s (.ptr 0 0 0 0)), (14, .s (.ptr 0 13 0 0)), (15, .s (.fn 64 [.ptr 0 12 0 0, .ptr 0 0 0 0, .ptr 0 1 0 0, .ptr 0 13 0 0])), (16, iv ((z.1 : Int) - 1))])
      (fun z => confFr kind ts (x.list.l.map Rul.enc) z.2.2.2 z.2.1 z.2.2.1.length :: fr)
      (fun z => z.1 ≤ z.2.1.length ∧ z.2.2.1.length = z.2.1.length ∧ RulsOK z.2.1 ∧ z.2.2.2.length < 1000000 ∧ z.2.2.2.take z.2.2.1.length = z.2.2.1.map encI ∧ K (rv (.tup [.int .i64 kind, Sl.enc 1 encI ⟨2, (dropF kind ts z.1 (z.2.1, z.2.2.1)).2⟩, .int .i64 0])) none fr = some r) (fun z => z.1) (fun z L hC hL => ?_) _ (x.list.l.length, x.list.l, x.numbers.l, x.numbers.l.map encI) ⟨Nat.le_refl _, hnn, rok, by show (x.numbers.l.map encI).length < _; rw [List.length_map]; omega, by show (x.numbers.l.map encI).take x.numbers.l.length = _; rw [List.take_of_length_le (by simp)], h⟩ (by show x.list.l.length < _; omega)
    obtain ⟨m, left, nums, R0⟩ := z
    obtain ⟨c1, c2, c3, c4, c5, hC⟩ := hC
    simp only at c1 c2 c3 c4 c5 hC hL
    have hll := c3.len
    cases m with
    | zero =>
      conv => lhs; whnf
      repeat' ((first | refine eIf_t ?_ | refine eIf_f ?_ | refine eGet_i rfl ?_ | refine eReq_i rfl ?_ | refine slLen_e ?_ | refine eIf_cf (show decide (((0 : Nat) : Int) - 1 ≥ 0) = false by simp) ?_ | refine eIf_i (fun _ => ?_) (fun _ => ?_)) <;> (try (conv => lhs; whnf)))
      rw [List.drop_zero, c5, vsl_enc]
      exact hC
    | succ i =>
      have hi : (((i + 1 : Nat) : Int) - 1) = (i : Int) := by omega
      simp only [dropF] at hC
      have hg : decide ((((i + 1 : Nat) : Int) - 1) ≥ 0) = true := decide_eq_true (by omega)
      have hw2 : IntKind.i64.wrap ((((i + 1 : Nat) : Int) - 1) - 1) = (i : Int) - 1 := by rw [wrap_id (by omega) (by omega)]; omega
      cases hc : contraS (left.eraseIdx i) kind ts with
      | true =>
        rw [hc, cond_true] at hC
        conv => lhs; whnf
        repeat' ((first | refine eIf_t ?_ | refine eIf_f ?_ | refine eGet_i rfl ?_ | refine eReq_i rfl ?_ | refine slLen_e ?_ | refine eIf_ct hg ?_ | refine s64t (l := left) (nums := nums) hi c3 hts k1 k2 (by omega) c2 c4 c5 hc ?_ | refine eIf_i (fun _ => ?_) (fun _ => ?_)) <;> (try (conv => lhs; whnf)))
        exact l_eq (hL (i, left.eraseIdx i, nums.eraseIdx i, delRows R0 nums.length i [.int .i64 0]) ⟨by show i ≤ (left.eraseIdx i).length; rw [List.length_eraseIdx, if_pos (by omega)]; omega, by show (nums.eraseIdx i).length = (left.eraseIdx i).length; rw [List.length_eraseIdx, List.length_eraseIdx, if_pos (by omega), if_pos (by omega)]; omega, c3.erase i, by
          show (delRows R0 nums.length i [.int .i64 0]).length < _
          have : nums.length ≤ R0.length := by
            have := congrArg List.length c5
            simp at this; omega
          rw [delRows_len (by omega) this]; exact c4, by
          show (delRows R0 nums.length i [.int .i64 0]).take (nums.eraseIdx i).length = _
          rw [List.length_eraseIdx, if_pos (by omega)]
          exact delRows_take c5 (by omega), hC⟩ (by show i < i + 1; omega)) (by simp only; rw [hw2]) (by
          show _ = confFr kind ts (x.list.l.map Rul.enc) (delRows R0 nums.length i [.int .i64 0]) (left.eraseIdx i) (nums.eraseIdx i).length :: fr
          rw [List.length_eraseIdx, if_pos (by omega)])
      | false =>
        rw [hc, cond_false] at hC
        conv => lhs; whnf
        repeat' ((first | refine eIf_t ?_ | refine eIf_f ?_ | refine eGet_i rfl ?_ | refine eReq_i rfl ?_ | refine slLen_e ?_ | refine eIf_ct hg ?_ | refine s64f (l := left) (nums := nums) hi c3 hts k1 k2 (by omega) c2 c4 c5 hc ?_ | refine eIf_i (fun _ => ?_) (fun _ => ?_)) <;> (try (conv => lhs; whnf)))
        exact l_eq (hL (i, left, nums, R0) ⟨by show i ≤ left.length; omega, c2, c3, c4, c5, hC⟩ (by show i < i + 1; omega)) (by simp only; rw [hw2]) rfl
  · have b0 : (findE s.l t p == 0) = false := by simpa using h0
    have b1 : (findE s.l t p != 0) = true := by simpa using h0
    conv => lhs; whnf
    repeat' ((first | refine eIf_t ?_ | refine eIf_f ?_ | refine eGet_i rfl ?_ | refine eReq_i rfl ?_ | refine slLen_e ?_ | refine s56e h0 ?_ | refine eIf_ct b1 ?_ | refine eIf_i (fun _ => ?_) (fun _ => ?_)) <;> (try (conv => lhs; whnf)))
    have e1 : conflR s.l t p = (0, ⟨0, []⟩) := by simp only [conflR, b0, cond_false]
    rw [e1] at h
    simp only at h
    rw [← nils_enc] at h
    exact h
end Go.PM.Try

namespace Go.PM.Try
open Go.Proofs
attribute [local irreducible] eIf eReq eGet eNil slLen slRows slIdx slSub slZero slView eFind eLoopN CC
variable {R : Type} [Stops R] [CCW R] {n : Nat} {fr : Frames} {K : PV → Option LB → Frames → Option R} {r : R}
set_option maxRecDepth 8000
set_option linter.unusedSectionVars false

def exNight : Rul := ⟨⟨#[110, 105, 103, 104, 116]⟩, ⟨2, [⟨#[97, 49]⟩]⟩, ⟨2, [⟨1, 3500⟩]⟩, 1320, 360, 127, 0, 0, false, ⟨2, [⟨⟨#[101, 115, 99, 111, 114, 116]⟩, 1, 10⟩]⟩, 30⟩
def exDay : Rul := ⟨⟨#[100, 97, 121]⟩, ⟨2, [⟨#[97, 49]⟩]⟩, ⟨2, [⟨2, 60000⟩]⟩, 360, 1200, 31, 0, 0, false, ⟨0, []⟩, 0⟩
def exA : Aut := ⟨⟨#[99, 111, 117, 110, 116, 121]⟩, 120, 2880, ⟨2, [exNight, exDay]⟩⟩
def exT (w : Int) : Trp := ⟨⟨4200, 4000, w, 9000, 30000, 15000⟩, ⟨2, [⟨⟨#[99, 111, 117, 110, 116, 121]⟩, ⟨#[97, 49]⟩, 90⟩]⟩⟩
theorem s45 (h : K (gv exA.enc) none fr = some r) : (CC (n+1)).fn 45 [] fr K = some r := by
  refine cc q45_ok rfl ?_
  conv => lhs; whnf
  repeat' ((first | refine eIf_t ?_ | refine eIf_f ?_ | refine eGet_i rfl ?_ | refine eReq_i rfl ?_ | refine slLen_e ?_ | refine eIf_i (fun _ => ?_) (fun _ => ?_)) <;> (try (conv => lhs; whnf)))
  exact h
theorem s46 {w : Int} (h : K (gv (exT w).enc) none fr = some r) : (CC (n+1)).fn 46 [iv w] fr K = some r := by
  refine cc q46_ok rfl ?_
  conv => lhs; whnf
  repeat' ((first | refine eIf_t ?_ | refine eIf_f ?_ | refine eGet_i rfl ?_ | refine eReq_i rfl ?_ | refine slLen_e ?_ | refine eIf_i (fun _ => ?_) (fun _ => ?_)) <;> (try (conv => lhs; whnf)))
  exact h
theorem ex_find : findE [exA] (exT 60000) 0 = 0 := by decide +kernel
theorem ex_begin : beginS [exA] (exT 40000) = 0 := by decide +kernel
theorem ex_fee : (compileS [exA] (exT 40000)).fee = 150 ∧ (compileS [exA] (exT 40000)).notice = 2880 ∧ (compileS [exA] (exT 40000)).conds.length = 1 := by decide +kernel
theorem ex_next : nextE [exA] (exT 40000) 0 271 = 0 ∧ nextV [exA] (exT 40000) 0 271 = 1320 := by decide +kernel
theorem ex_confl : (conflR [exA] (exT 60000) 0).1 = 2 ∧ (conflR [exA] (exT 60000) 0).2.l.length = 2 := by decide +kernel
def exL : Sl Aut := ⟨2, [exA]⟩
theorem s14x (h : K (rv (.tup [.agg (compileS [exA] (exT 40000)).prm.enc, .int .i64 0])) none fr = some r) : (CC (n+17)).fn 14 [rv (.vsl 4 [exA.enc]), gv (exT 40000).enc] fr K = some r := by
  refine s14 (s := exL) (t := exT 40000) ?_
  rw [show beginS exL.l (exT 40000) = 0 from ex_begin]
  exact h
theorem s21x (h : K (rv (.tup [.int .i64 1320, .int .i64 0])) none fr = some r) : (CC (n+18)).fn 21 [rv (.vsl 4 [exA.enc]), gv (exT 40000).enc, iv 0, iv 271] fr K = some r := by
  refine s21 (s := exL) (t := exT 40000) ?_
  rw [show nextE exL.l (exT 40000) 0 271 = 0 from ex_next.1, show nextV exL.l (exT 40000) 0 271 = 1320 from ex_next.2]
  exact h
theorem s25x (h : ∀ c : Sl Int, c.l.length = 2 → K (rv (.tup [.int .i64 2, c.enc 1 encI, .int .i64 0])) none fr = some r) : (CC (n+19)).fn 25 [rv (.vsl 4 [exA.enc]), gv (exT 60000).enc, iv 0] fr K = some r := by
  refine s25 (s := exL) (t := exT 60000) ?_
  rw [show findE exL.l (exT 60000) 0 = 0 from ex_find, show (conflR exL.l (exT 60000) 0).1 = 2 from ex_confl.1]
  exact h _ ex_confl.2
theorem s13 (h : K (bv true) none fr = some r) : (CC (n+20)).fn 13 [] fr K = some r := by
  refine cc q13_ok rfl ?_
  have f1 : ((compileS [exA] (exT 40000)).prm.fee == 150) = true := by rw [show (compileS [exA] (exT 40000)).prm.fee = 150 from ex_fee.1]; rfl
  have f2 : ((compileS [exA] (exT 40000)).prm.notice == 2880) = true := by rw [show (compileS [exA] (exT 40000)).prm.notice = 2880 from ex_fee.2.1]; rfl
  have f3 : (((compileS [exA] (exT 40000)).prm.conds.l.length : Int) == 1) = true := by rw [show (compileS [exA] (exT 40000)).prm.conds.l.length = 1 from ex_fee.2.2]; rfl
  conv => lhs; whnf
  repeat' ((first | refine eIf_t ?_ | refine eIf_f ?_ | refine eGet_i rfl ?_ | refine eReq_i rfl ?_ | refine slLen_e ?_ | refine s45 ?_ | refine s46 ?_ | refine s14x ?_ | refine s21x ?_ | refine s25x (fun c hc => ?_) | refine eIf_ct f1 ?_ | refine eIf_ct f2 ?_ | refine eIf_ct f3 ?_ | refine eIf_i (fun _ => ?_) (fun _ => ?_)) <;> (try (conv => lhs; whnf)))
  rw [hc]
  exact h
end Go.PM.Try

namespace Go.PM.Try
open Go.Proofs
attribute [local irreducible] eIf eReq eGet eNil slLen slRows slIdx slSub slZero slView eFind eLoopN CC Sl.enc
variable {R : Type} [Stops R] [CCW R] {n : Nat} {fr : Frames} {K : PV → Option LB → Frames → Option R} {r : R}
set_option maxRecDepth 8000
set_option linter.unusedSectionVars false

theorem compileS_len {l : List Aut} {t : Trp} (hb : beginS l t = 0) : (compileS l t).prm.conds.l.length < 1000000 := by
  have ok := beginS_ok hb
  have key : ∀ (ps : List Pas) (i : Nat), (∀ p ∈ ps, (ownR l t.sizes p).length ≤ 24) → (blocks l t.sizes ps i).length ≤ 24 * ps.length := by
    intro ps
    induction ps with
    | nil => intro i _; simp [blocks]
    | cons p ps ih =>
      intro i h
      have h1 := ih (i + 1) fun q hq => h q (by simp [hq])
      have h2 := h p (by simp)
      simp only [blocks, List.length_append, blockC_len, List.length_cons]
      omega
  have h1 := key t.passages.l 0 fun p _ => (ownR_ok hb p).1
  have h2 := ok.plen
  show (compileS l t).conds.length < _
  rw [compileS, pasF_conds]
  simp only [List.nil_append]
  omega
theorem s3 {s : Sl Aut} {t : Trp} (h : K (bv true) none fr = some r) : (CC (n+21)).fn 3 [rv (s.enc 4 Aut.enc), gv t.enc] fr K = some r := by
  refine cc q3_ok rfl ?_
  have hl : (bif beginS s.l t != 0 then zeroPrm else (compileS s.l t).prm).conds.l.length < 1000000 := by
    by_cases hb : beginS s.l t = 0
    · rw [show (beginS s.l t != 0) = false by simpa using hb]
      exact compileS_len hb
    · rw [show (beginS s.l t != 0) = true by simpa using hb]
      exact Nat.zero_lt_succ _
  conv => lhs; whnf
  repeat' ((first | refine eIf_t ?_ | refine eIf_f ?_ | refine eGet_i rfl ?_ | refine eReq_i rfl ?_ | refine slLen_e ?_ | refine s12 (fun b => ?_) | refine s13 ?_ | refine s14 ?_ | refine s15 ?_ | refine s16 ?_ | refine s17 ?_ | refine s18 ?_ | refine s19 ?_ | refine s20 rfl rfl rfl hl ?_ | refine eIf_ct (show (checkAllS s.l == checkAllS s.l) = true by simp) ?_ | refine eIf_ct (show (checkTripS t == checkTripS t) = true by simp) ?_ | refine eIf_ct (show (beginS s.l t == beginS s.l t) = true by simp) ?_ | refine eIf_i (fun _ => ?_) (fun _ => ?_)) <;> (try (conv => lhs; whnf)))
  all_goals exact h
end Go.PM.Try

namespace Go.PM.Try
set_option linter.unusedSectionVars false

/-- All minutes from one to another are allowed. -/
def Run (al : Int → Bool) (x y : Int) : Prop := ∀ t, x ≤ t → t < y → al t = true
structure WinsOK (al : Int → Bool) (a lo to : Int) (ws : List (Int × Int)) : Prop where
  each : ∀ w ∈ ws, lo ≤ w.1 ∧ w.1 < w.2 ∧ w.2 ≤ to ∧ Run al w.1 w.2 ∧ (w.1 = a ∨ al (w.1 - 1) = false) ∧ (w.2 = to ∨ al w.2 = false)
  sorted : ws.Pairwise fun w w' => w.2 < w'.1
  whole : ∀ s e, lo ≤ s → s < e → e ≤ to → Run al s e → ∃ w ∈ ws, w.1 ≤ s ∧ e ≤ w.2
theorem wlist_ok {al nd : Int → Bool} {a to : Int} (ha : 0 ≤ a) (hnd : ∀ at_, 0 ≤ at_ → nd at_ = true → ∀ t, at_ ≤ t → t < at_ / 1440 * 1440 + 1440 → al t = false) : ∀ (n : Nat) (at_ start : Int), a ≤ at_ → to - at_ + 1 < n →
    ((start = -1 ∧ (at_ = a ∨ al (at_ - 1) = false ∨ to < at_)) ∨ (a ≤ start ∧ start < at_ ∧ at_ ≤ to ∧ Run al start at_ ∧ (start = a ∨ al (start - 1) = false))) → WinsOK al a (if start = -1 then at_ else start) to (wlist al nd to n at_ start)
  | 0, at_, start, h0, h1, h2 => by
    refine ⟨fun w hw => (by simp [wlist] at hw), List.Pairwise.nil, fun s e h3 h4 h5 h6 => ?_⟩
    exfalso
    rcases h2 with ⟨rfl, _⟩ | ⟨h7, h8, h9, _⟩
    · simp at h3; omega
    · omega
  | n + 1, at_, start, h0, h1, h2 => by
    simp only [wlist]
    by_cases hle : at_ ≤ to
    · rw [decide_eq_true hle, cond_true]
      cases hal : (decide (at_ < to) && al at_) with
      | true =>
        rw [cond_true]
        simp only [Bool.and_eq_true, decide_eq_true_eq] at hal
        obtain ⟨hlt, hal⟩ := hal
        rcases h2 with ⟨rfl, h2⟩ | ⟨h7, h8, h9, h10, h11⟩
        · have e : (bif decide ((-1 : Int) < 0) then at_ else -1) = at_ := rfl
          rw [e]
          have := wlist_ok (to := to) ha hnd n (at_ + 1) at_ (by omega) (by omega) (.inr ⟨h0, by omega, by omega, fun t t1 t2 => (by rw [show t = at_ by omega]; exact hal), by
            rcases h2 with h | h | h
            · exact .inl h
            · exact .inr h
            · omega⟩)
          rw [if_neg (by omega)] at this
          rw [if_pos rfl]
          exact this
        · have e : (bif decide (start < 0) then at_ else start) = start := by rw [decide_eq_false (by omega), cond_false]
          rw [e]
          have := wlist_ok (to := to) ha hnd n (at_ + 1) start (by omega) (by omega) (.inr ⟨h7, by omega, by omega, fun t t1 t2 => (by
            rcases Int.lt_or_le t at_ with h | h
            · exact h10 t t1 h
            · rw [show t = at_ by omega]; exact hal), h11⟩)
          rw [if_neg (by omega)] at this ⊢
          exact this
      | false =>
        rw [cond_false]
        have hstop : at_ = to ∨ al at_ = false := by
          rcases Int.lt_or_le at_ to with h | h
          · rw [decide_eq_true h, Bool.true_and] at hal; exact .inr hal
          · exact .inl (by omega)
        -- the next place
        obtain ⟨nx, hnx⟩ : ∃ nx, nx = (bif decide (at_ < to) && nd at_ then min to (at_ / 1440 * 1440 + 1440) - 1 else at_) + 1 := ⟨_, rfl⟩
        have hn1 : at_ + 1 ≤ nx ∧ (∀ t, at_ ≤ t → t < nx → t < to → al t = false) ∧ (nx = a ∨ al (nx - 1) = false ∨ to < nx) := by
          cases hc : (decide (at_ < to) && nd at_) with
          | false =>
            rw [hc, cond_false] at hnx
            refine ⟨by omega, fun t t1 t2 t3 => ?_, ?_⟩
            · rw [show t = at_ by omega]
              rcases hstop with h | h
              · omega
              · exact h
            · rcases hstop with h | h
              · exact .inr (.inr (by omega))
              · refine .inr (.inl ?_)
                rw [hnx, show at_ + 1 - 1 = at_ by omega]; exact h
          | true =>
            rw [hc, cond_true] at hnx
            simp only [Bool.and_eq_true, decide_eq_true_eq] at hc
            obtain ⟨c1, c2⟩ := hc
            have hd := hnd at_ (by omega) c2
            refine ⟨by omega, fun t t1 t2 t3 => hd t t1 (by omega), .inr (.inl (hd _ (by omega) (by omega)))⟩
        rw [← hnx]
        clear hnx
        obtain ⟨g1, g2, g3⟩ := hn1
        have ih := wlist_ok (to := to) ha hnd n nx (-1) (by omega) (by omega) (.inl ⟨rfl, g3⟩)
        rw [if_pos rfl] at ih
        -- a run cannot pass a minute that is not allowed
        have pass : ∀ s e, s < e → e ≤ to → Run al s e → at_ ≤ s → nx ≤ s := fun s e q1 q2 q3 q4 => by
          rcases Int.lt_or_le s nx with h | h
          · have := g2 s q4 h (by omega)
            rw [q3 s (Int.le_refl _) q1] at this; cases this
          · exact h
        rcases h2 with ⟨rfl, h2⟩ | ⟨h7, h8, h9, h10, h11⟩
        · have e : decide ((-1 : Int) ≥ 0) = false := rfl
          rw [e, cond_false, if_pos rfl]
          refine ⟨fun w hw => ?_, ih.sorted, fun s e q1 q2 q3 q4 => ih.whole s e (pass s e q2 q3 q4 q1) q2 q3 q4⟩
          obtain ⟨r1, r2⟩ := ih.each w hw
          exact ⟨by omega, r2⟩
        · rw [decide_eq_true (show start ≥ 0 by omega), cond_true, if_neg (by omega)]
          refine ⟨fun w hw => ?_, List.pairwise_cons.2 ⟨fun w hw => ?_, ih.sorted⟩, fun s e q1 q2 q3 q4 => ?_⟩
          · rcases List.mem_cons.1 hw with rfl | hw
            · exact ⟨Int.le_refl _, h8, h9, h10, h11, hstop⟩
            · obtain ⟨r1, r2⟩ := ih.each w hw
              exact ⟨by omega, r2⟩
          · obtain ⟨r1, r2⟩ := ih.each w hw
            show at_ < w.1
            omega
          · rcases Int.lt_or_le s at_ with h | h
            · refine ⟨(start, at_), by simp, q1, ?_⟩
              show e ≤ at_
              rcases Int.lt_or_le at_ e with h' | h'
              · exfalso
                rcases hstop with hs | hs
                · omega
                · rw [q4 at_ (by omega) h'] at hs; cases hs
              · exact h'
            · obtain ⟨w, hw, r1, r2⟩ := ih.whole s e (pass s e q2 q3 q4 h) q2 q3 q4
              exact ⟨w, by simp [hw], r1, r2⟩
    · rw [decide_eq_false hle, cond_false]
      refine ⟨fun w hw => (by simp at hw), List.Pairwise.nil, fun s e h3 h4 h5 h6 => ?_⟩
      exfalso
      rcases h2 with ⟨rfl, _⟩ | ⟨h7, h8, h9, _⟩
      · simp at h3; omega
      · omega
theorem notDay_no {l : List Rul} {at_ : Int} (h : notDay l at_ = true) : ∀ t, at_ ≤ t → t < at_ / 1440 * 1440 + 1440 → allS l t = false := fun t h1 h2 => by
  have e : t / 1440 = at_ / 1440 := by omega
  obtain ⟨x, hx, hd⟩ := List.any_eq_true.1 h
  rw [allS, List.all_eq_false]
  refine ⟨x, hx, ?_⟩
  have hd' : dayS x (at_ / 1440) = false := by simpa using hd
  rw [allowsS, e, hd']; simp
theorem winS_ok {l : List Rul} {a b : Int} (ha : 0 ≤ a) (hab : a ≤ b) : WinsOK (allS l) a a b (winS l a b) := by
  have := wlist_ok (al := allS l) (nd := notDay l) (a := a) (to := b) ha (fun at_ _ h => notDay_no h) ((b - a).toNat + 2) a (-1) (Int.le_refl _) (by omega) (.inl ⟨rfl, .inl rfl⟩)
  rw [if_pos rfl] at this
  exact this
/-- The least start, of those before an end, from which on enough minutes are allowed. -/
def Next (al : Int → Bool) (from_ last m : Int) : NS → Prop
  | .hit n => from_ ≤ n ∧ n < last ∧ Run al n (n + m) ∧ ∀ s, from_ ≤ s → s < n → ¬ Run al s (s + m)
  | _ => ∀ s, from_ ≤ s → s < last → ¬ Run al s (s + m)
theorem foldN_ok {al : Int → Bool} {a last m : Int} : ∀ (ws : List (Int × Int)) (lo : Int), WinsOK al a lo (last + m) ws → 1 ≤ m → ∀ q : NS, q = .go → Next al lo last m (foldW (stepN last m) ws q)
  | [], lo, h, hm, q, hq => by
    subst hq
    intro s h1 h2 h3
    obtain ⟨w, hw, _⟩ := h.whole s (s + m) h1 (by omega) (by omega) h3
    cases hw
  | w :: ws, lo, h, hm, q, hq => by
    subst hq
    obtain ⟨c1, c2, c3, c4, c5, c6⟩ := h.each w (by simp)
    have hs := List.pairwise_cons.1 h.sorted
    have first : ∀ s, lo ≤ s → s < w.1 → s < last → ¬ Run al s (s + m) := fun s h1 h2 hl h3 => by
      obtain ⟨w', hw', r1, r2⟩ := h.whole s (s + m) h1 (by omega) (by omega) h3
      rcases List.mem_cons.1 hw' with rfl | hw'
      · omega
      · have := hs.1 w' hw'; omega
    simp only [foldW, stepN]
    by_cases h1 : w.1 ≥ last
    · simp only [decide_eq_true h1, cond_true, cond_false]
      exact fun s q1 q2 => first s q1 (by omega) q2
    · simp only [decide_eq_false h1, cond_false]
      by_cases h2 : w.2 - w.1 ≥ m
      · simp only [decide_eq_true h2, cond_true, cond_false]
        exact ⟨c1, by omega, fun t t1 t2 => c4 t t1 (by omega), fun s q1 q2 => first s q1 q2 (by omega)⟩
      · simp only [decide_eq_false h2, cond_false, cond_true]
        -- the others
        have rest : WinsOK al a (w.2 + 1) (last + m) ws := by
          refine ⟨fun w' hw' => ?_, hs.2, fun s e q1 q2 q3 q4 => ?_⟩
          · obtain ⟨r1, r2⟩ := h.each w' (by simp [hw'])
            have := hs.1 w' hw'
            exact ⟨by omega, r2⟩
          · obtain ⟨w', hw', r1, r2⟩ := h.whole s e (by omega) q2 q3 q4
            rcases List.mem_cons.1 hw' with rfl | hw'
            · omega
            · exact ⟨w', hw', r1, r2⟩
        have none : ∀ s, lo ≤ s → s < w.2 + 1 → s < last → ¬ Run al s (s + m) := fun s q1 q2 q3 q4 => by
          obtain ⟨w', hw', r1, r2⟩ := h.whole s (s + m) q1 (by omega) (by omega) q4
          rcases List.mem_cons.1 hw' with rfl | hw'
          · omega
          · have := hs.1 w' hw'; omega
        have ih := foldN_ok ws (w.2 + 1) rest hm .go rfl
        cases hf : foldW (stepN last m) ws NS.go with
        | hit n =>
          rw [hf] at ih
          obtain ⟨r1, r2, r3, r4⟩ := ih
          refine ⟨by omega, r2, r3, fun s q1 q2 => ?_⟩
          rcases Int.lt_or_le s (w.2 + 1) with h | h
          · exact none s q1 h (by omega)
          · exact r4 s h q2
        | go =>
          rw [hf] at ih
          intro s q1 q2
          rcases Int.lt_or_le s (w.2 + 1) with h | h
          · exact none s q1 h q2
          · exact ih s h q2
        | late =>
          rw [hf] at ih
          intro s q1 q2
          rcases Int.lt_or_le s (w.2 + 1) with h | h
          · exact none s q1 h q2
          · exact ih s h q2
theorem nextS_ok {x : Rls} (ok : RlsOK x) {from_ : Int} (h0 : 0 ≤ from_) : Next (allS x.list.l) from_ (lastN from_) x.minutes (nextS x from_) := by
  have hm := ok.m0
  have hl : lastN from_ = (from_ / 1440 + 400) * 1440 := rfl
  exact foldN_ok (winS x.list.l from_ (lastN from_ + x.minutes)) from_ (winS_ok h0 (by omega)) hm .go rfl
end Go.PM.Try

namespace Go.PM.Try
open Go.Proofs
attribute [local irreducible] eIf eReq eGet eNil slLen slRows slIdx slSub slZero slView eFind eLoopN CC Sl.enc
variable {R : Type} [Stops R] [CCW R] {n : Nat} {fr : Frames} {K : PV → Option LB → Frames → Option R} {r : R}
set_option maxRecDepth 8000
set_option linter.unusedSectionVars false

def ruleAt (l : List Aut) (c : Cnd) : Option Rul := (l[c.auth.toNat]?).bind fun A => A.rules.l[c.rule.toNat]?
def CondOK (l : List Aut) (c : Cnd) : Prop := 0 ≤ c.auth ∧ 0 ≤ c.rule ∧ ∃ x, ruleAt l c = some x
/-- The conditions of a passage, with their numbers. -/
def ofF (l : List Aut) (p : Int) : List Cnd → Nat → List Int × List Rul → List Int × List Rul
  | [], _, o => o
  | c :: cs, k, o => ofF l p cs (k + 1) (bif c.passage == p then (o.1 ++ [(k : Int)], match ruleAt l c with
    | some x => o.2 ++ [x]
    | none => o.2) else o)
theorem ofF_append (l : List Aut) (p : Int) : ∀ (c d : List Cnd) (k : Nat) (o : List Int × List Rul), ofF l p (c ++ d) k o = ofF l p d (k + c.length) (ofF l p c k o)
  | [], d, k, o => rfl
  | x :: c, d, k, o => by
    simp only [List.cons_append, ofF, List.length_cons]
    rw [ofF_append l p c d (k + 1)]
    congr 1; omega
theorem ofF_other (l : List Aut) {p i : Int} (h : i ≠ p) (a : Int) (road : ByteArray) (sz : Siz) : ∀ (rules : List Rul) (j k : Nat) (o : List Int × List Rul), ofF l p (condsR i a road sz rules j) k o = o
  | [], j, k, o => rfl
  | x :: rules, j, k, o => by
    simp only [condsR]
    cases isForS x road sz with
    | false => exact ofF_other l h a road sz rules (j + 1) k o
    | true =>
      have e : (i == p) = false := by simpa using h
      simp only [cond_true, ofF, e, cond_false]
      exact ofF_other l h a road sz rules (j + 1) (k + 1) o
theorem ofF_own {l : List Aut} {i a : Int} {A : Aut} (hA : l[a.toNat]? = some A) (road : ByteArray) (sz : Siz) : ∀ (rules : List Rul) (j k : Nat) (o : List Int × List Rul), A.rules.l.drop j = rules →
    ofF l i (condsR i a road sz rules j) k o = (o.1 ++ numsR k (rules.filter fun x => isForS x road sz).length, o.2 ++ rules.filter fun x => isForS x road sz)
  | [], j, k, o, _ => by simp [condsR, ofF, numsR]
  | x :: rules, j, k, o, hj => by
    have hx : A.rules.l[j]? = some x := by
      have : (A.rules.l.drop j)[0]? = some x := by rw [hj]; rfl
      rw [List.getElem?_drop] at this
      simpa using this
    have hj' : A.rules.l.drop (j + 1) = rules := by
      have : (A.rules.l.drop j).drop 1 = rules := by rw [hj]; rfl
      rw [List.drop_drop] at this
      exact this
    simp only [condsR]
    cases hf : isForS x road sz with
    | false =>
      simp only [cond_false]
      rw [ofF_own hA road sz rules (j + 1) k o hj']
      simp [hf]
    | true =>
      have e : ruleAt l ⟨i, a, (j : Int)⟩ = some x := by simp [ruleAt, hA, hx]
      simp only [cond_true, ofF, beq_self_eq_true, e]
      rw [ofF_own hA road sz rules (j + 1) (k + 1) _ hj']
      simp [hf, numsR_succ]
theorem ofF_blocks_other {l : List Aut} {sz : Siz} : ∀ (ps : List Pas) (i : Nat) (p : Int) (k : Nat) (o : List Int × List Rul), (∀ j : Nat, j < ps.length → ((i + j : Nat) : Int) ≠ p) → ofF l p (blocks l sz ps i) k o = o
  | [], i, p, k, o, _ => rfl
  | q :: ps, i, p, k, o, h => by
    simp only [blocks]
    rw [ofF_append]
    have h0 : (i : Int) ≠ p := h 0 (by simp)
    have e : ofF l p (blockC l sz i q) k o = o := by
      unfold blockC
      cases l[(authS l q.auth).toNat]? with
      | none => rfl
      | some A => exact ofF_other l h0 _ _ _ _ _ _ _
    rw [e]
    exact ofF_blocks_other ps (i + 1) p _ o fun j hj => by
      have := h (j + 1) (by simp; omega)
      rw [show i + 1 + j = i + (j + 1) by omega]
      exact this
theorem ofF_blocks {l : List Aut} {sz : Siz} : ∀ (ps : List Pas) (i : Nat) (j : Nat) (p : Pas) (k : Nat) (o : List Int × List Rul), ps[j]? = some p → (∀ q ∈ ps, 0 ≤ authS l q.auth) →
    ofF l ((i + j : Nat) : Int) (blocks l sz ps i) k o = (o.1 ++ numsR (k + (blocks l sz (ps.take j) i).length) (ownR l sz p).length, o.2 ++ ownR l sz p)
  | [], i, j, p, k, o, hj, _ => by simp at hj
  | q :: ps, i, 0, p, k, o, hj, hq => by
    simp only [List.getElem?_cons_zero, Option.some.injEq] at hj
    subst hj
    simp only [blocks]
    rw [ofF_append, ofF_blocks_other ps (i + 1) _ _ _ (fun j _ => by omega)]
    obtain ⟨A, hA, _⟩ := authS_at (hq q (by simp))
    simp only [blockC, ownR, hA, Nat.add_zero, List.take_zero, blocks, List.length_nil]
    exact ofF_own hA _ _ _ _ _ _ rfl
  | q :: ps, i, j + 1, p, k, o, hj, hq => by
    simp only [blocks]
    rw [ofF_append]
    have e : ofF l ((i + (j + 1) : Nat) : Int) (blockC l sz i q) k o = o := by
      unfold blockC
      cases l[(authS l q.auth).toNat]? with
      | none => rfl
      | some A => exact ofF_other l (by omega) _ _ _ _ _ _ _
    rw [e, show i + (j + 1) = (i + 1) + j by omega, ofF_blocks ps (i + 1) j p _ o (by simpa using hj) fun q' hq' => hq q' (by simp [hq'])]
    simp only [List.take_succ_cons, blocks, List.length_append]
    rw [Nat.add_assoc]
theorem condsR_ok {l : List Aut} {i a : Int} (ha : 0 ≤ a) {A : Aut} (hA : l[a.toNat]? = some A) (road : ByteArray) (sz : Siz) : ∀ (rules : List Rul) (j : Nat), A.rules.l.drop j = rules → ∀ c ∈ condsR i a road sz rules j, CondOK l c
  | [], j, _, c, hc => by simp [condsR] at hc
  | x :: rules, j, hj, c, hc => by
    have hx : A.rules.l[j]? = some x := by
      have : (A.rules.l.drop j)[0]? = some x := by rw [hj]; rfl
      rw [List.getElem?_drop] at this
      simpa using this
    have hj' : A.rules.l.drop (j + 1) = rules := by
      have : (A.rules.l.drop j).drop 1 = rules := by rw [hj]; rfl
      rw [List.drop_drop] at this
      exact this
    simp only [condsR] at hc
    cases hf : isForS x road sz with
    | false => rw [hf, cond_false] at hc; exact condsR_ok ha hA road sz rules (j + 1) hj' c hc
    | true =>
      rw [hf, cond_true] at hc
      rcases List.mem_cons.1 hc with rfl | hc
      · exact ⟨ha, by show (0 : Int) ≤ (j : Int); omega, x, by simp [ruleAt, hA, hx]⟩
      · exact condsR_ok ha hA road sz rules (j + 1) hj' c hc
theorem blocks_ok {l : List Aut} {sz : Siz} : ∀ (ps : List Pas) (i : Nat), (∀ q ∈ ps, 0 ≤ authS l q.auth) → ∀ c ∈ blocks l sz ps i, CondOK l c
  | [], i, _, c, hc => by simp [blocks] at hc
  | q :: ps, i, hq, c, hc => by
    simp only [blocks, List.mem_append] at hc
    rcases hc with hc | hc
    · obtain ⟨A, hA, _⟩ := authS_at (hq q (by simp))
      simp only [blockC, hA] at hc
      exact condsR_ok (hq q (by simp)) hA _ _ A.rules.l 0 rfl c hc
    · exact blocks_ok ps (i + 1) (fun q' hq' => hq q' (by simp [hq'])) c hc
theorem compileS_conds (l : List Aut) (t : Trp) : (compileS l t).conds = blocks l t.sizes t.passages.l 0 := by
  rw [compileS, pasF_conds]; rfl
/-- What the reference takes for a passage's rules: those that are for it. -/
def ofS (l : List Aut) (t : Trp) (p : Int) : List Int × List Rul := ofF l p (compileS l t).conds 0 ([], [])
theorem ofS_eq {l : List Aut} {t : Trp} (hb : beginS l t = 0) {j : Nat} {p : Pas} (hp : t.passages.l[j]? = some p) : ofS l t j = (numsR (firstN l t j) (ownR l t.sizes p).length, ownR l t.sizes p) := by
  have := ofF_blocks (l := l) (sz := t.sizes) t.passages.l 0 j p 0 ([], []) hp (beginS_ok hb).auth
  rw [Nat.zero_add, Nat.zero_add] at this
  rw [ofS, compileS_conds, this]
  simp [firstN]
theorem s23 {s : Sl Aut} {t : Trp} {p : Int} (hb : beginS s.l t = 0) (h : K (rv (.tup [Sl.enc 1 encI ⟨0, (ofS s.l t p).1⟩, Sl.enc 11 Rul.enc ⟨0, (ofS s.l t p).2⟩])) none fr = some r) : (CC (n+4)).fn 23 [rv (s.enc 4 Aut.enc), gv t.enc, iv p] fr K = some r := by
  have ok := beginS_ok hb
  have hcl := compileS_len hb
  have hco : ∀ c ∈ (compileS s.l t).prm.conds.l, CondOK s.l c := by
    show ∀ c ∈ (compileS s.l t).conds, _
    rw [compileS_conds]
    exact blocks_ok _ _ ok.auth
  refine cc q23_ok rfl ?_
  conv => lhs; whnf
  repeat' ((first | refine eIf_t ?_ | refine eIf_f ?_ | refine eGet_i rfl ?_ | refine eReq_i rfl ?_ | refine slLen_e ?_ | refine s49 (by have := ok.len; omega) (by have := ok.plen; omega) ok.auth (fun a ha x hx => RulOK.of ((ok.rules a ha).2 x hx)) (fun a ha => by have := (ok.rules a ha).1; omega) ?_ | refine eIf_i (fun _ => ?_) (fun _ => ?_)) <;> (try (conv => lhs; whnf)))
  have h' : K (rv (.tup [Sl.enc 1 encI ⟨0, (ofF s.l p ((compileS s.l t).prm.conds.l.drop 0) 0 ([], [])).1⟩, Sl.enc 11 Rul.enc ⟨0, (ofF s.l p ((compileS s.l t).prm.conds.l.drop 0) 0 ([], [])).2⟩])) none fr = some r := h
  clear h
  generalize (compileS s.l t).prm = pm at *
  refine eLoop_i (R := R) (σ := Nat × List Int × List Rul) (fun z => [(0, rv (s.enc 4 Aut.enc)), (2, iv p), (8, .s (.tsl 1 (z.2.1.map encI) 0 1)), (9, .s (.tsl 11 (z.2.2.map Rul.enc) 0 2)), (10, .s (.ptr 0 0 0 0)), (11, iv z.1)])
    (fun z => [.box (pm.enc.map .ro), .tok 1 z.2.1.length, .tok 11 z.2.2.length] :: fr)
    (fun z => z.1 ≤ pm.conds.l.length ∧ z.2.1.length ≤ z.1 ∧ z.2.2.length ≤ z.1 ∧ K (rv (.tup [Sl.enc 1 encI ⟨0, (ofF s.l p (pm.conds.l.drop z.1) z.1 z.2).1⟩, Sl.enc 11 Rul.enc ⟨0, (ofF s.l p (pm.conds.l.drop z.1) z.1 z.2).2⟩])) none fr = some r) (fun z => pm.conds.l.length - z.1) (fun z L hC hL => ?_) _ (0, [], []) ⟨Nat.zero_le _, Nat.zero_le _, Nat.zero_le _, h'⟩ (by show _ - 0 < _; omega)
  obtain ⟨k, ns, rs⟩ := z
  obtain ⟨hk, hn, hr, hC⟩ := hC
  simp only at hk hn hr hC hL
  rcases Nat.lt_or_ge k pm.conds.l.length with hlt | hge
  · obtain ⟨c, hx⟩ : ∃ c, pm.conds.l[k]? = some c := ⟨_, List.getElem?_eq_getElem hlt⟩
    obtain ⟨ha, hj, x, hx2⟩ := hco c (List.mem_of_getElem? hx)
    obtain ⟨A, hA, hxA⟩ : ∃ A, s.l[c.auth.toNat]? = some A ∧ A.rules.l[c.rule.toNat]? = some x := by
      simp only [ruleAt, Option.bind_eq_some_iff] at hx2
      exact hx2
    rw [drop_succ hx] at hC
    simp only [ofF, hx2] at hC
    conv => lhs; whnf
    repeat' ((first | refine eIf_t ?_ | refine eIf_f ?_ | refine eGet_i rfl ?_ | refine eReq_i rfl ?_ | refine slLen_e ?_ | refine eIf_ct (lt_t hlt) ?_ | refine slIdx_e rfl (Int.natCast_nonneg _) hx ?_ | refine slRows_v ?_ | refine eNil_c rfl ?_ | refine slIdx_e rfl ha hA ?_ | refine slIdx_e rfl hj hxA ?_ | refine eReq_i (by simp [Nat.ble_eq]; omega) ?_ | refine eIf_i (fun _ => ?_) (fun _ => ?_)) <;> (try (conv => lhs; whnf)))
    · rename_i g
      rw [show (c.passage == p) = true from g, cond_true] at hC
      exact l_eq (hL (k + 1, ns ++ [(k : Int)], rs ++ [x]) ⟨hlt, by simp; omega, by simp; omega, hC⟩ (by show _ - (k + 1) < _; omega)) (by rw [wrap_up (by omega)]; simp) (by simp)
    · rename_i g
      rw [show (c.passage == p) = false from g, cond_false] at hC
      exact l_eq (hL (k + 1, ns, rs) ⟨hlt, by show ns.length ≤ _; omega, by show rs.length ≤ _; omega, hC⟩ (by show _ - (k + 1) < _; omega)) (by rw [wrap_up (by omega)]) (by simp)
  · have : k = pm.conds.l.length := by omega
    subst this
    rw [List.drop_length] at hC
    conv => lhs; whnf
    repeat' ((first | refine eIf_t ?_ | refine eIf_f ?_ | refine eGet_i rfl ?_ | refine eReq_i rfl ?_ | refine slLen_e ?_ | refine eIf_cf lt_f ?_ | refine eIf_i (fun _ => ?_) (fun _ => ?_)) <;> (try (conv => lhs; whnf)))
    dsimp only
    rw [seal_enc, seal_enc]
    exact hC
theorem s22 {s : Sl Aut} {t : Trp} (h : K (bv (beginS s.l t == 0)) none fr = some r) : (CC (n+15)).fn 22 [rv (s.enc 4 Aut.enc), gv t.enc] fr K = some r := by
  refine cc q22_ok rfl ?_
  conv => lhs; whnf
  repeat' ((first | refine eIf_t ?_ | refine eIf_f ?_ | refine eGet_i rfl ?_ | refine eReq_i rfl ?_ | refine slLen_e ?_ | refine s15 ?_ | refine eIf_i (fun _ => ?_) (fun _ => ?_)) <;> (try (conv => lhs; whnf)))
  exact h
/-- All minutes from a start on, so many. -/
def freeS (l : List Rul) (a : Int) (m : Nat) : Bool := (List.range m).all fun k => allS l (a + k)
theorem freeS_iff {l : List Rul} {a : Int} {m : Nat} : freeS l a m = true ↔ Run (allS l) a (a + m) := by
  unfold freeS
  rw [List.all_eq_true]
  constructor
  · intro h t h1 h2
    have := h (t - a).toNat (by simp; omega)
    rw [show a + ((t - a).toNat : Int) = t by omega] at this
    exact this
  · intro h k hk
    exact h _ (by omega) (by simp at hk; omega)
theorem s24 {s : Sl Rul} (hs : s.l.length < 1000000) (ht : ∀ x ∈ s.l, RulT x) {a m : Int} (ha : 0 ≤ a) (hm0 : 0 ≤ m) (hm : m < 1000000000) (ha' : a < 4611686017000000000) (h : K (bv (freeS s.l a m.toNat)) none fr = some r) : (CC (n+5)).fn 24 [rv (s.enc 11 Rul.enc), iv a, iv m] fr K = some r := by
  refine cc q24_ok rfl ?_
  have hw : IntKind.i64.wrap (a + m) = a + m := wrap_id (by omega) (by omega)
  conv => lhs; whnf
  repeat' ((first | refine eIf_t ?_ | refine eIf_f ?_ | refine eGet_i rfl ?_ | refine eReq_i rfl ?_ | refine slLen_e ?_ | refine eIf_i (fun _ => ?_) (fun _ => ?_)) <;> (try (conv => lhs; whnf)))
  refine eLoop_i (R := R) (σ := Int) (fun at_ => [(0, rv (s.enc 11 Rul.enc)), (1, iv a), (2, iv m), (7, iv at_)]) (fun _ => [] :: fr) (fun at_ => a ≤ at_ ∧ at_ ≤ a + m ∧ K (bv (((List.range m.toNat).drop (at_ - a).toNat).all fun k => allS s.l (a + k))) none fr = some r) (fun at_ => (a + m - at_).toNat) (fun at_ L hC hL => ?_) _ a ⟨Int.le_refl _, by omega, by rw [Int.sub_self]; exact h⟩ (by show (a + m - a).toNat < _; omega)
  obtain ⟨hk0, hk, hC⟩ := hC
  rcases Int.lt_or_le at_ (a + m) with hlt | hge
  · have hlt' : (at_ - a).toNat < m.toNat := by omega
    rw [drop_succ (show (List.range m.toNat)[(at_ - a).toNat]? = some (at_ - a).toNat by rw [List.getElem?_range hlt']), List.all_cons, show a + ((at_ - a).toNat : Int) = at_ by omega, show (at_ - a).toNat + 1 = (at_ + 1 - a).toNat by omega] at hC
    conv => lhs; whnf
    repeat' ((first | refine eIf_t ?_ | refine eIf_f ?_ | refine eGet_i rfl ?_ | refine eReq_i rfl ?_ | refine slLen_e ?_ | refine eIf_ct (show decide (at_ < IntKind.i64.wrap (a + m)) = true by rw [hw]; exact decide_eq_true hlt) ?_ | refine eIf_i (fun _ => ?_) (fun _ => ?_)) <;> (try (conv => lhs; whnf)))
    have hC2 : K (bv (allS (s.l.drop 0) at_ && ((List.range m.toNat).drop (at_ + 1 - a).toNat).all fun k => allS s.l (a + k))) none fr = some r := hC
    clear hC h
    refine eLoop_l s.l (fun j => [(0, rv (s.enc 11 Rul.enc)), (1, iv a), (2, iv m), (7, iv at_), (8, iv j)]) (fun _ => [] :: fr) (fun j => K (bv (allS (s.l.drop j) at_ && ((List.range m.toNat).drop (at_ + 1 - a).toNat).all fun k => allS s.l (a + k))) none fr = some r) (fun j y L' hx hj hI hL' => ?_) (fun L' hI => ?_) _ (by omega) hC2
    · rw [allS, all_drop hx] at hI
      conv => lhs; whnf
      repeat' ((first | refine eIf_t ?_ | refine eIf_f ?_ | refine eGet_i rfl ?_ | refine eReq_i rfl ?_ | refine slLen_e ?_ | refine eIf_ct (lt_t hj) ?_ | refine slIdx_e rfl (Int.natCast_nonneg _) hx ?_ | refine s59 (ht y (List.mem_of_getElem? hx)) (by omega) (by omega) ?_ | refine eIf_i (fun _ => ?_) (fun _ => ?_)) <;> (try (conv => lhs; whnf)))
      · rename_i g
        rw [nT g, Bool.false_and, Bool.false_and] at hI
        exact hI
      · rename_i g
        rw [nF g, Bool.true_and] at hI
        exact l_eq (hL' hI) (by rw [wrap_up (by omega)]) rfl
    · rw [List.drop_length] at hI
      conv => lhs; whnf
      repeat' ((first | refine eIf_t ?_ | refine eIf_f ?_ | refine eGet_i rfl ?_ | refine eReq_i rfl ?_ | refine slLen_e ?_ | refine eIf_cf lt_f ?_ | refine eIf_i (fun _ => ?_) (fun _ => ?_)) <;> (try (conv => lhs; whnf)))
      exact l_eq (hL (at_ + 1) ⟨by omega, by omega, hI⟩ (by omega)) (by rw [wrap_id (by omega) (by omega)]) rfl
  · rw [List.drop_eq_nil_of_le (by simp; omega)] at hC
    conv => lhs; whnf
    repeat' ((first | refine eIf_t ?_ | refine eIf_f ?_ | refine eGet_i rfl ?_ | refine eReq_i rfl ?_ | refine slLen_e ?_ | refine eIf_cf (show decide (at_ < IntKind.i64.wrap (a + m)) = false by rw [hw]; exact decide_eq_false (by omega)) ?_ | refine eIf_i (fun _ => ?_) (fun _ => ?_)) <;> (try (conv => lhs; whnf)))
    exact hC
end Go.PM.Try

namespace Go.PM.Try
open Go.Proofs
attribute [local irreducible] eIf eReq eGet eNil slLen slRows slIdx slSub slZero slView eFind eLoopN CC Sl.enc
variable {R : Type} [Stops R] [CCW R] {n : Nat} {fr : Frames} {K : PV → Option LB → Frames → Option R} {r : R}
set_option maxRecDepth 8000
set_option linter.unusedSectionVars false

/-- A passage that is there, of a trip against which nothing speaks. -/
structure At (l : List Aut) (t : Trp) (p : Int) (q : Pas) : Prop where
  hb : beginS l t = 0
  h0 : 0 ≤ p
  hq : t.passages.l[p.toNat]? = some q
  own : ofS l t p = (numsR (firstN l t p.toNat) (ownR l t.sizes q).length, ownR l t.sizes q)
  len : (ownR l t.sizes q).length ≤ 24
  rules : ∀ y ∈ ownR l t.sizes q, ruleS y = true
  m0 : 1 ≤ q.minutes
  m1 : q.minutes ≤ 10080
  lt : p < t.passages.l.length
theorem At.of {l : List Aut} {t : Trp} {p : Int} (h : findE l t p = 0) : ∃ q, At l t p q ∧ (deskS l t).2[p.toNat]? = some (ownRls l t.sizes (firstN l t p.toNat) q) := by
  obtain ⟨hb, h1, h2⟩ := findE_ok h
  have hl := deskS_len (beginS_ok hb).auth
  obtain ⟨x, hx⟩ : ∃ x, (deskS l t).2[p.toNat]? = some x := ⟨_, List.getElem?_eq_getElem (by omega)⟩
  obtain ⟨q, hq, rfl⟩ := deskS_get (beginS_ok hb).auth hx
  have ok := ownRls_ok hb (List.mem_of_getElem? hq) (firstN l t p.toNat)
  have e := ofS_eq hb hq
  rw [show ((p.toNat : Nat) : Int) = p by omega] at e
  exact ⟨q, ⟨hb, h1, hq, e, ok.len, ok.rules, ok.m0, ok.m1, h2⟩, hx⟩
theorem next_facts {l : List Aut} {t : Trp} {p from_ : Int} (h : nextE l t p from_ = 0) : ∃ q, At l t p q ∧ 0 ≤ from_ ∧ from_ ≤ 1099511627776 ∧ from_ ≤ nextV l t p from_ ∧ nextV l t p from_ < lastN from_ ∧
    Run (allS (ownR l t.sizes q)) (nextV l t p from_) (nextV l t p from_ + q.minutes) ∧ ∀ s, from_ ≤ s → s < nextV l t p from_ → ¬ Run (allS (ownR l t.sizes q)) s (s + q.minutes) := by
  have h0 : findE l t p = 0 := by
    by_cases h0 : findE l t p = 0
    · exact h0
    · have e : (findE l t p != 0) = true := by simpa using h0
      simp only [nextE, e, cond_true] at h
      exact h
  obtain ⟨q, hat, hd⟩ := At.of h0
  have e0 : (findE l t p != 0) = false := by simpa using h0
  have e1 : (findE l t p == 0) = true := by simpa using h0
  cases hf : betweenS from_ 0 1099511627776 with
  | false => simp only [nextE, e0, hf, cond_false, Bool.not_false, cond_true] at h; cases h
  | true =>
    have hf' : 0 ≤ from_ ∧ from_ ≤ 1099511627776 := by simpa [betweenS] using hf
    simp only [nextE, e0, hf, cond_false, Bool.not_true, hd] at h
    have hn := nextS_ok (ownRls_ok hat.hb (List.mem_of_getElem? hat.hq) (firstN l t p.toNat)) hf'.1
    have ev : nextV l t p from_ = nsV (nextS (ownRls l t.sizes (firstN l t p.toNat) q) from_) := by
      simp only [nextV, e1, hf, Bool.and_self, cond_true, hd]
    rw [ev]
    cases hs : nextS (ownRls l t.sizes (firstN l t p.toNat) q) from_ with
    | go => rw [hs] at h; cases h
    | late => rw [hs] at h; cases h
    | hit n =>
      rw [hs] at hn
      exact ⟨q, hat, hf'.1, hf'.2, hn.1, hn.2.1, hn.2.2.1, hn.2.2.2⟩
theorem next_zero {l : List Aut} {t : Trp} {p from_ : Int} (h : nextE l t p from_ ≠ 0) : nextV l t p from_ = 0 := by
  unfold nextV
  cases hc : (findE l t p == 0 && betweenS from_ 0 1099511627776) with
  | false => rfl
  | true =>
    simp only [Bool.and_eq_true] at hc
    have e0 : (findE l t p != 0) = false := by have := hc.1; simp at this; simp [this]
    rw [cond_true]
    unfold nextE at h
    rw [e0, hc.2] at h
    simp only [cond_false, Bool.not_true] at h
    cases hd : (deskS l t).2[p.toNat]? with
    | none => rfl
    | some x =>
      rw [hd] at h
      simp only at h ⊢
      cases hs : nextS x from_ with
      | go => rfl
      | late => rfl
      | hit n => rw [hs] at h; exact absurd rfl h
theorem s21v {s : Sl Aut} {t : Trp} {p from_ v : Int} (hv : nextV s.l t p from_ = v) (he : nextE s.l t p from_ = 0) (h : K (rv (.tup [.int .i64 v, .int .i64 0])) none fr = some r) : (CC (n+18)).fn 21 [rv (s.enc 4 Aut.enc), gv t.enc, iv p, iv from_] fr K = some r := by
  refine s21 ?_
  rw [hv, he]; exact h
theorem s4 {s : Sl Aut} {t : Trp} {p from_ part : Int} (hp0 : 0 ≤ part) (hp1 : part ≤ 65535) (h : K (bv true) none fr = some r) : (CC (n+21)).fn 4 [rv (s.enc 4 Aut.enc), gv t.enc, iv p, iv from_, .s (.ro (.int .u16 part))] fr K = some r := by
  refine cc q4_ok rfl ?_
  by_cases he : nextE s.l t p from_ = 0
  · obtain ⟨q, hat, f0, f1, f2, f3, f4, f5⟩ := next_facts he
    have b0 : (nextE s.l t p from_ != 0) = false := by simpa using he
    have hl : lastN from_ = (from_ / 1440 + 400) * 1440 := rfl
    have hm0 := hat.m0
    have hm1 := hat.m1
    obtain ⟨v, hv⟩ : ∃ v, nextV s.l t p from_ = v := ⟨_, rfl⟩
    rw [hv] at f2 f3 f4 f5
    have hlen : (ofS s.l t p).2.length < 1000000 := by rw [hat.own]; have := hat.len; show (ownR s.l t.sizes q).length < _; omega
    have hrt : ∀ x ∈ (ofS s.l t p).2, RulT x := by rw [hat.own]; exact fun x hx => RulT.of (hat.rules x hx)
    have c1 : decide (v < from_) = false := decide_eq_false (by omega)
    have c2 : decide (p < 0) = false := decide_eq_false (by have := hat.h0; omega)
    have c3 : decide (p ≥ (t.passages.l.length : Int)) = false := decide_eq_false (by have := hat.lt; omega)
    have c4 : (!(beginS s.l t == 0)) = false := by rw [hat.hb]; rfl
    have c5 : (!(freeS (ofS s.l t p).2 v q.minutes.toNat)) = false := by
      rw [freeS_iff.2 (by rw [hat.own, show ((q.minutes.toNat : Nat) : Int) = q.minutes by omega]; exact f4)]; rfl
    by_cases hgt : v > from_
    · have hB : IntKind.i64.wrap (IntKind.i64.wrap (v - from_) - 1) = v - from_ - 1 := by rw [wrap_id (x := v - from_) (by omega) (by omega), wrap_id (by omega) (by omega)]
      have hC : IntKind.i64.wrap part = part := wrap_id (by omega) (by omega)
      have hp2 : 0 ≤ (v - from_ - 1) * part ∧ (v - from_ - 1) * part ≤ (v - from_ - 1) * 65535 := ⟨Int.mul_nonneg (by omega) hp0, Int.mul_le_mul_of_nonneg_left hp1 (by omega)⟩
      have hD : IntKind.i64.wrap ((v - from_ - 1) * part) = (v - from_ - 1) * part := wrap_id (by omega) (by omega)
      have hE : IntKind.i64.wrap (((v - from_ - 1) * part).tdiv 65535) = (v - from_ - 1) * part / 65535 := by
        rw [Int.tdiv_eq_ediv_of_nonneg hp2.1, wrap_id (by omega) (by omega)]
      have hF : IntKind.i64.wrap (from_ + (v - from_ - 1) * part / 65535) = from_ + (v - from_ - 1) * part / 65535 := wrap_id (by omega) (by omega)
      have hbef : IntKind.i64.wrap (from_ + IntKind.i64.wrap ((IntKind.i64.wrap (IntKind.i64.wrap (IntKind.i64.wrap (v - from_) - 1) * IntKind.i64.wrap part)).tdiv 65535)) = from_ + (v - from_ - 1) * part / 65535 := by
        rw [hB, hC, hD, hE, hF]
      generalize hz : from_ + (v - from_ - 1) * part / 65535 = z at hbef
      have hz1 : from_ ≤ z ∧ z < v := by omega
      have hG : IntKind.i64.wrap (v - 1) = v - 1 := wrap_id (by omega) (by omega)
      have d1 : freeS (ofS s.l t p).2 z q.minutes.toNat = false := by
        cases hx : freeS (ofS s.l t p).2 z q.minutes.toNat with
        | false => rfl
        | true =>
          rw [freeS_iff, hat.own, show ((q.minutes.toNat : Nat) : Int) = q.minutes by omega] at hx
          exact absurd hx (f5 z hz1.1 hz1.2)
      have d2 : freeS (ofS s.l t p).2 (v - 1) q.minutes.toNat = false := by
        cases hx : freeS (ofS s.l t p).2 (v - 1) q.minutes.toNat with
        | false => rfl
        | true =>
          rw [freeS_iff, hat.own, show ((q.minutes.toNat : Nat) : Int) = q.minutes by omega] at hx
          exact absurd hx (f5 (v - 1) (by omega) (by omega))
      conv => lhs; whnf
      repeat' ((first | refine eIf_t ?_ | refine eIf_f ?_ | refine eGet_i rfl ?_ | refine eReq_i rfl ?_ | refine slLen_e ?_ | refine s12 (fun b => ?_) | refine s13 ?_ | refine s21v hv he ?_ | refine eIf_cf c1 ?_ | refine eIf_cf c2 ?_ | refine eIf_cf c3 ?_ | refine eIf_cf c4 ?_ | refine s22 ?_ | refine s23 hat.hb ?_ | refine s24 (s := ⟨0, (ofS s.l t p).2⟩) hlen hrt (by omega) (by omega) (by omega) (by omega) ?_ | refine eIf_cf c5 ?_ | refine slIdx_e rfl hat.h0 hat.hq ?_ | refine eIf_ct (decide_eq_true hgt) ?_ | refine eIf_cf (by rw [hbef]; exact d1) ?_ | refine eIf_cf (by rw [hG]; exact d2) ?_ | refine eIf_i (fun _ => ?_) (fun _ => ?_)) <;> (try (conv => lhs; whnf)))
      all_goals exact h
    · have c6 : decide (v > from_) = false := decide_eq_false hgt
      conv => lhs; whnf
      repeat' ((first | refine eIf_t ?_ | refine eIf_f ?_ | refine eGet_i rfl ?_ | refine eReq_i rfl ?_ | refine slLen_e ?_ | refine s12 (fun b => ?_) | refine s13 ?_ | refine s21v hv he ?_ | refine eIf_cf c1 ?_ | refine eIf_cf c2 ?_ | refine eIf_cf c3 ?_ | refine eIf_cf c4 ?_ | refine s22 ?_ | refine s23 hat.hb ?_ | refine s24 (s := ⟨0, (ofS s.l t p).2⟩) hlen hrt (by omega) (by omega) (by omega) (by omega) ?_ | refine eIf_cf c5 ?_ | refine slIdx_e rfl hat.h0 hat.hq ?_ | refine eIf_cf c6 ?_ | refine eIf_i (fun _ => ?_) (fun _ => ?_)) <;> (try (conv => lhs; whnf)))
      all_goals exact h
  · have b0 : (nextE s.l t p from_ != 0) = true := by simpa using he
    have hv := next_zero he
    conv => lhs; whnf
    repeat' ((first | refine eIf_t ?_ | refine eIf_f ?_ | refine eGet_i rfl ?_ | refine eReq_i rfl ?_ | refine slLen_e ?_ | refine s12 (fun b => ?_) | refine s13 ?_ | refine s21 ?_ | refine eIf_ct b0 ?_ | refine eIf_ct (show (nextV s.l t p from_ == 0) = true by rw [hv]; rfl) ?_ | refine eIf_i (fun _ => ?_) (fun _ => ?_)) <;> (try (conv => lhs; whnf)))
    all_goals exact h
end Go.PM.Try
