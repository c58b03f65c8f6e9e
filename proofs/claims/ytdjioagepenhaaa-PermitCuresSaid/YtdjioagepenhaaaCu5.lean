/-
Part 5 of a proof: the machine PM, its law, the walks through the program, and what they say: PW28, PW29, PW30, PW31, PW32, PW33, PW34.
-/
import Derived.Test.YtdjioagepenhaaaCu4
set_option linter.unusedVariables false
set_option linter.unusedSimpArgs false
set_option linter.unusedSectionVars false
set_option linter.unnecessarySimpa false
namespace Go.PM.Try
open Go.Proofs
attribute [local irreducible] eIf eReq eGet eNil slLen slRows slIdx slSub slZero slView eFind eLoopN CC Sl.enc
variable {R : Type} [Stops R] [CCW R] {n : Nat} {fr : Frames} {K : PV → Option LB → Frames → Option R} {r : R}
set_option maxRecDepth 8000
set_option linter.unusedSectionVars false

theorem encS_get {l : List ByteArray} {k : Nat} {x : ByteArray} (h : l[k]? = some x) : (l.map encS)[((k : Int)).toNat]? = some [RV.str x] := by
  rw [Int.toNat_natCast, List.getElem?_map, h]; rfl
theorem s26 {s : Sl Rul} (hs : s.l.length < 100) (hc : ∀ x ∈ s.l, x.counts.l.length < 1000) (h : K (rv (Sl.enc 1 encS ⟨0, thingsS s.l⟩)) none fr = some r) : (CC (n+1)).fn 26 [rv (s.enc 11 Rul.enc)] fr K = some r := by
  refine cc q26_ok rfl ?_
  conv => lhs; whnf
  repeat' ((first | refine eIf_t ?_ | refine eIf_f ?_ | refine eGet_i rfl ?_ | refine eReq_i rfl ?_ | refine slLen_e ?_ | refine eIf_i (fun _ => ?_) (fun _ => ?_)) <;> (try (conv => lhs; whnf)))
  refine eLoop_i (R := R) (σ := Nat × List ByteArray) (fun z => [(0, rv (s.enc 11 Rul.enc)), (3, .s (.tsl 1 (z.2.map encS) 0 0)), (4, iv z.1)]) (fun z => [.tok 1 z.2.length] :: fr) (fun z => z.1 ≤ s.l.length ∧ z.2.length ≤ 1000 * z.1 ∧ K (rv (Sl.enc 1 encS ⟨0, thingsR (s.l.drop z.1) z.2⟩)) none fr = some r) (fun z => s.l.length - z.1) (fun z L hC hL => ?_) _ (0, []) ⟨Nat.zero_le _, by simp, h⟩ (by show _ - 0 < _; omega)
  obtain ⟨k, o⟩ := z
  obtain ⟨hk, ho, hC⟩ := hC
  simp only at hk ho hC hL
  rcases Nat.lt_or_ge k s.l.length with hlt | hge
  · obtain ⟨y, hx⟩ : ∃ y, s.l[k]? = some y := ⟨_, List.getElem?_eq_getElem hlt⟩
    have hyc := hc y (List.mem_of_getElem? hx)
    rw [drop_succ hx] at hC
    simp only [thingsR] at hC
    conv => lhs; whnf
    repeat' ((first | refine eIf_t ?_ | refine eIf_f ?_ | refine eGet_i rfl ?_ | refine eReq_i rfl ?_ | refine slLen_e ?_ | refine eIf_ct (lt_t hlt) ?_ | refine eIf_i (fun _ => ?_) (fun _ => ?_)) <;> (try (conv => lhs; whnf)))
    refine eLoop_i (R := R) (σ := Nat × List ByteArray) (fun z => [(0, rv (s.enc 11 Rul.enc)), (3, .s (.tsl 1 (z.2.map encS) 0 0)), (4, iv k), (5, iv z.1)]) (fun z => [.tok 1 z.2.length] :: fr) (fun z => z.1 ≤ y.counts.l.length ∧ z.2.length ≤ 1000 * k + z.1 ∧ K (rv (Sl.enc 1 encS ⟨0, thingsR (s.l.drop (k + 1)) (thingsC (y.counts.l.drop z.1) z.2)⟩)) none fr = some r) (fun z => y.counts.l.length - z.1) (fun z L' hI hL' => ?_) _ (0, o) ⟨Nat.zero_le _, ho, hC⟩ (by show _ - 0 < _; omega)
    obtain ⟨j, o⟩ := z
    obtain ⟨hj, ho, hI⟩ := hI
    simp only at hj ho hI hL'
    rcases Nat.lt_or_ge j y.counts.l.length with hjl | hjg
    · obtain ⟨c, hcx⟩ : ∃ c, y.counts.l[j]? = some c := ⟨_, List.getElem?_eq_getElem hjl⟩
      rw [drop_succ hcx] at hI
      simp only [thingsC] at hI
      conv => lhs; whnf
      repeat' ((first | refine eIf_t ?_ | refine eIf_f ?_ | refine eGet_i rfl ?_ | refine eReq_i rfl ?_ | refine slLen_e ?_ | refine slIdx_e rfl (Int.natCast_nonneg _) hx ?_ | refine eIf_ct (lt_t hjl) ?_ | refine eIf_i (fun _ => ?_) (fun _ => ?_)) <;> (try (conv => lhs; whnf)))
      refine eLoop_i (R := R) (σ := Nat × Bool) (fun z => [(0, rv (s.enc 11 Rul.enc)), (3, .s (.tsl 1 (o.map encS) 0 0)), (4, iv k), (5, iv j), (6, bv z.2), (7, iv z.1)]) (fun z => [.tok 1 o.length] :: fr) (fun z => z.1 ≤ o.length ∧ z.2 = (o.take z.1).any fun y => eqB y c.thing) (fun z => o.length - z.1) (fun z L'' hJ hL'' => ?_) _ (0, false) ⟨Nat.zero_le _, by simp⟩ (by show _ - 0 < _; omega)
      obtain ⟨m, b⟩ := z
      obtain ⟨hm, hb⟩ := hJ
      simp only at hm hb hL''
      rcases Nat.lt_or_ge m o.length with hml | hmg
      · obtain ⟨w, hw⟩ : ∃ w, o[m]? = some w := ⟨_, List.getElem?_eq_getElem hml⟩
        have hs2 : ((o.take (m + 1)).any fun y => eqB y c.thing) = (((o.take m).any fun y => eqB y c.thing) || eqB w c.thing) := by rw [take_succ hw]; simp
        conv => lhs; whnf
        repeat' ((first | refine eIf_t ?_ | refine eIf_f ?_ | refine eGet_i rfl ?_ | refine eReq_i rfl ?_ | refine slLen_e ?_ | refine eIf_ct (show decide ((m : Int) < ((o.map encS).length : Int)) = true by rw [List.length_map]; exact lt_t hml) ?_ | refine eGet_i (encS_get hw) ?_ | refine slIdx_e rfl (Int.natCast_nonneg _) hx ?_ | refine slIdx_e rfl (Int.natCast_nonneg _) hcx ?_ | refine eIf_i (fun _ => ?_) (fun _ => ?_)) <;> (try (conv => lhs; whnf)))
        · rename_i g
          have g' : b = true := g
          exact l_eq (hL'' (m + 1, true) ⟨hml, by show true = _; rw [hs2, ← hb, g']; rfl⟩ (by show _ - (m + 1) < _; omega)) (by rw [wrap_up (by omega)]) rfl
        · rename_i g
          have g' : b = false := g
          exact l_eq (hL'' (m + 1, eqB w c.thing) ⟨hml, by show eqB w c.thing = _; rw [hs2, ← hb, g']; rfl⟩ (by show _ - (m + 1) < _; omega)) (by rw [wrap_up (by omega)]; rfl) rfl
      · have : m = o.length := by omega
        subst this
        have hb' : b = o.any (eqB c.thing) := by rw [hb, List.take_length, any_comm]
        conv => lhs; whnf
        repeat' ((first | refine eIf_t ?_ | refine eIf_f ?_ | refine eGet_i rfl ?_ | refine eReq_i rfl ?_ | refine slLen_e ?_ | refine eIf_cf (show decide ((o.length : Int) < ((o.map encS).length : Int)) = false by rw [List.length_map]; exact lt_f) ?_ | refine slIdx_e rfl (Int.natCast_nonneg _) hx ?_ | refine slIdx_e rfl (Int.natCast_nonneg _) hcx ?_ | refine slRows_v ?_ | refine eNil_c rfl ?_ | refine eReq_i (by simp [Nat.ble_eq]; omega) ?_ | refine eIf_i (fun _ => ?_) (fun _ => ?_)) <;> (try (conv => lhs; whnf)))
        · rename_i g
          have g' : b = false := nT g
          have e : addT c.thing o = o ++ [c.thing] := by rw [addT, ← hb', g']; rfl
          rw [e] at hI
          exact l_eq (hL' (j + 1, o ++ [c.thing]) ⟨hjl, by simp; omega, hI⟩ (by show _ - (j + 1) < _; omega)) (by rw [wrap_up (by omega)]; simp) (by simp)
        · rename_i g
          have g' : b = true := nF g
          have e : addT c.thing o = o := by rw [addT, ← hb', g']; rfl
          rw [e] at hI
          exact l_eq (hL' (j + 1, o) ⟨hjl, by show o.length ≤ _; omega, hI⟩ (by show _ - (j + 1) < _; omega)) (by rw [wrap_up (by omega)]) rfl
    · have : j = y.counts.l.length := by omega
      subst this
      rw [List.drop_length] at hI
      conv => lhs; whnf
      repeat' ((first | refine eIf_t ?_ | refine eIf_f ?_ | refine eGet_i rfl ?_ | refine eReq_i rfl ?_ | refine slLen_e ?_ | refine slIdx_e rfl (Int.natCast_nonneg _) hx ?_ | refine eIf_cf lt_f ?_ | refine eIf_i (fun _ => ?_) (fun _ => ?_)) <;> (try (conv => lhs; whnf)))
      exact l_eq (hL (k + 1, o) ⟨hlt, by show o.length ≤ _; omega, hI⟩ (by show _ - (k + 1) < _; omega)) (by rw [wrap_up (by omega)]) (by simp)
  · have : k = s.l.length := by omega
    subst this
    rw [List.drop_length] at hC
    conv => lhs; whnf
    repeat' ((first | refine eIf_t ?_ | refine eIf_f ?_ | refine eGet_i rfl ?_ | refine eReq_i rfl ?_ | refine slLen_e ?_ | refine eIf_cf lt_f ?_ | refine eIf_i (fun _ => ?_) (fun _ => ?_)) <;> (try (conv => lhs; whnf)))
    dsimp only
    rw [seal_enc]
    exact hC
theorem not_emptyH (l : List Rul) (m : Nat) : (l.all fun x => liesS m x.h0 x.h1) = !(emptyH l m) := by
  rw [emptyH, any_not, Bool.not_not]
theorem not_emptyN (l : List Rul) (m : Nat) : (l.all fun x => liesS m x.s0 x.s1) = !(emptyN l m) := by
  rw [emptyN, any_not, Bool.not_not]
theorem s28_1 {s : Sl Rul} (hs : s.l.length < 100) {things : RV} (h : K (bv (forbidS s.l)) none fr = some r) : (CC (n+2)).fn 28 [rv (s.enc 11 Rul.enc), iv 1, rv things] fr K = some r := by
  refine cc q28_ok rfl ?_
  conv => lhs; whnf
  repeat' ((first | refine eIf_t ?_ | refine eIf_f ?_ | refine eGet_i rfl ?_ | refine eReq_i rfl ?_ | refine slLen_e ?_ | refine eIf_i (fun _ => ?_) (fun _ => ?_)) <;> (try (conv => lhs; whnf)))
  refine eLoop_l s.l (fun k => [(0, rv (s.enc 11 Rul.enc)), (7, iv k)]) (fun _ => [] :: fr) (fun k => K (bv (forbidS (s.l.drop k))) none fr = some r) (fun k y L hx hk hC hL => ?_) (fun L hC => ?_) _ (by omega) h
  · rw [forbidS, any_drop hx] at hC
    conv => lhs; whnf
    repeat' ((first | refine eIf_t ?_ | refine eIf_f ?_ | refine eGet_i rfl ?_ | refine eReq_i rfl ?_ | refine slLen_e ?_ | refine eIf_ct (lt_t hk) ?_ | refine slIdx_e rfl (Int.natCast_nonneg _) hx ?_ | refine eIf_i (fun _ => ?_) (fun _ => ?_)) <;> (try (conv => lhs; whnf)))
    · rename_i g
      rw [show y.forbid = true from g] at hC
      exact hC
    · rename_i g
      rw [show y.forbid = false from g, Bool.false_or] at hC
      rw [wrap_up (by omega)]
      exact hL hC
  · rw [List.drop_length] at hC
    conv => lhs; whnf
    repeat' ((first | refine eIf_t ?_ | refine eIf_f ?_ | refine eGet_i rfl ?_ | refine eReq_i rfl ?_ | refine slLen_e ?_ | refine eIf_cf lt_f ?_ | refine eIf_i (fun _ => ?_) (fun _ => ?_)) <;> (try (conv => lhs; whnf)))
    exact hC
theorem s28_2 {s : Sl Rul} (hs : s.l.length < 100) {things : RV} (h : K (bv ((List.range 1440).all (emptyH s.l))) none fr = some r) : (CC (n+2)).fn 28 [rv (s.enc 11 Rul.enc), iv 2, rv things] fr K = some r := by
  refine cc q28_ok rfl ?_
  conv => lhs; whnf
  repeat' ((first | refine eIf_t ?_ | refine eIf_f ?_ | refine eGet_i rfl ?_ | refine eReq_i rfl ?_ | refine slLen_e ?_ | refine eIf_i (fun _ => ?_) (fun _ => ?_)) <;> (try (conv => lhs; whnf)))
  refine eLoop_l (List.range 1440) (fun k => [(0, rv (s.enc 11 Rul.enc)), (8, iv k)]) (fun _ => [] :: fr) (fun k => K (bv (((List.range 1440).drop k).all (emptyH s.l))) none fr = some r) (fun k y L hx hk hC hL => ?_) (fun L hC => ?_) _ (by simp) h
  · obtain ⟨rfl, hk⟩ := range_get hx
    rw [all_drop hx] at hC
    conv => lhs; whnf
    repeat' ((first | refine eIf_t ?_ | refine eIf_f ?_ | refine eGet_i rfl ?_ | refine eReq_i rfl ?_ | refine slLen_e ?_ | refine eIf_ct (lt_t hk) ?_ | refine eIf_i (fun _ => ?_) (fun _ => ?_)) <;> (try (conv => lhs; whnf)))
    clear h
    refine eLoop_i (R := R) (σ := Nat × Bool) (fun z => [(0, rv (s.enc 11 Rul.enc)), (8, iv y), (9, bv z.2), (10, iv z.1)]) (fun _ => [] :: fr) (fun z => z.1 ≤ s.l.length ∧ z.2 = (s.l.take z.1).all fun x => liesS y x.h0 x.h1) (fun z => s.l.length - z.1) (fun z L' hI hL' => ?_) _ (0, true) ⟨Nat.zero_le _, by simp⟩ (by show _ - 0 < _; omega)
    obtain ⟨j, b⟩ := z
    obtain ⟨hj, hb⟩ := hI
    simp only at hj hb hL'
    rcases Nat.lt_or_ge j s.l.length with hjl | hjg
    · obtain ⟨x, hxx⟩ : ∃ x, s.l[j]? = some x := ⟨_, List.getElem?_eq_getElem hjl⟩
      have hs2 : ((s.l.take (j + 1)).all fun x => liesS y x.h0 x.h1) = (((s.l.take j).all fun x => liesS y x.h0 x.h1) && liesS y x.h0 x.h1) := by rw [take_succ hxx]; simp
      conv => lhs; whnf
      repeat' ((first | refine eIf_t ?_ | refine eIf_f ?_ | refine eGet_i rfl ?_ | refine eReq_i rfl ?_ | refine slLen_e ?_ | refine eIf_ct (lt_t hjl) ?_ | refine slIdx_e rfl (Int.natCast_nonneg _) hxx ?_ | refine s68 ?_ | refine eIf_i (fun _ => ?_) (fun _ => ?_)) <;> (try (conv => lhs; whnf)))
      · rename_i g
        have g' : b = true := g
        exact l_eq (hL' (j + 1, liesS y x.h0 x.h1) ⟨hjl, by show liesS y x.h0 x.h1 = _; rw [hs2, ← hb, g']; rfl⟩ (by show _ - (j + 1) < _; omega)) (by rw [wrap_up (by omega)]) rfl
      · rename_i g
        have g' : b = false := g
        exact l_eq (hL' (j + 1, false) ⟨hjl, by show false = _; rw [hs2, ← hb, g']; rfl⟩ (by show _ - (j + 1) < _; omega)) (by rw [wrap_up (by omega)]) rfl
    · have : j = s.l.length := by omega
      subst this
      rw [List.take_length, not_emptyH] at hb
      conv => lhs; whnf
      repeat' ((first | refine eIf_t ?_ | refine eIf_f ?_ | refine eGet_i rfl ?_ | refine eReq_i rfl ?_ | refine slLen_e ?_ | refine eIf_cf lt_f ?_ | refine eIf_i (fun _ => ?_) (fun _ => ?_)) <;> (try (conv => lhs; whnf)))
      · rename_i g
        have g' : b = true := g
        rw [g'] at hb
        rw [nT hb.symm] at hC
        exact hC
      · rename_i g
        have g' : b = false := g
        rw [g'] at hb
        rw [nF hb.symm, Bool.true_and] at hC
        rw [wrap_up (by omega)]
        exact hL hC
  · rw [List.drop_length] at hC
    rw [List.length_range]
    conv => lhs; whnf
    repeat' ((first | refine eIf_t ?_ | refine eIf_f ?_ | refine eGet_i rfl ?_ | refine eReq_i rfl ?_ | refine slLen_e ?_ | refine eIf_cf (show decide (((1440 : Nat) : Int) < 1440) = false by simp) ?_ | refine eIf_i (fun _ => ?_) (fun _ => ?_)) <;> (try (conv => lhs; whnf)))
    exact hC
theorem s28_4 {s : Sl Rul} (hs : s.l.length < 100) {things : RV} (h : K (bv ((List.range 365).all (emptyN s.l))) none fr = some r) : (CC (n+2)).fn 28 [rv (s.enc 11 Rul.enc), iv 4, rv things] fr K = some r := by
  refine cc q28_ok rfl ?_
  conv => lhs; whnf
  repeat' ((first | refine eIf_t ?_ | refine eIf_f ?_ | refine eGet_i rfl ?_ | refine eReq_i rfl ?_ | refine slLen_e ?_ | refine eIf_i (fun _ => ?_) (fun _ => ?_)) <;> (try (conv => lhs; whnf)))
  refine eLoop_l (List.range 365) (fun k => [(0, rv (s.enc 11 Rul.enc)), (13, iv k)]) (fun _ => [] :: fr) (fun k => K (bv (((List.range 365).drop k).all (emptyN s.l))) none fr = some r) (fun k y L hx hk hC hL => ?_) (fun L hC => ?_) _ (by simp) h
  · obtain ⟨rfl, hk⟩ := range_get hx
    rw [all_drop hx] at hC
    conv => lhs; whnf
    repeat' ((first | refine eIf_t ?_ | refine eIf_f ?_ | refine eGet_i rfl ?_ | refine eReq_i rfl ?_ | refine slLen_e ?_ | refine eIf_ct (lt_t hk) ?_ | refine eIf_i (fun _ => ?_) (fun _ => ?_)) <;> (try (conv => lhs; whnf)))
    clear h
    refine eLoop_i (R := R) (σ := Nat × Bool) (fun z => [(0, rv (s.enc 11 Rul.enc)), (13, iv y), (14, bv z.2), (15, iv z.1)]) (fun _ => [] :: fr) (fun z => z.1 ≤ s.l.length ∧ z.2 = (s.l.take z.1).all fun x => liesS y x.s0 x.s1) (fun z => s.l.length - z.1) (fun z L' hI hL' => ?_) _ (0, true) ⟨Nat.zero_le _, by simp⟩ (by show _ - 0 < _; omega)
    obtain ⟨j, b⟩ := z
    obtain ⟨hj, hb⟩ := hI
    simp only at hj hb hL'
    rcases Nat.lt_or_ge j s.l.length with hjl | hjg
    · obtain ⟨x, hxx⟩ : ∃ x, s.l[j]? = some x := ⟨_, List.getElem?_eq_getElem hjl⟩
      have hs2 : ((s.l.take (j + 1)).all fun x => liesS y x.s0 x.s1) = (((s.l.take j).all fun x => liesS y x.s0 x.s1) && liesS y x.s0 x.s1) := by rw [take_succ hxx]; simp
      conv => lhs; whnf
      repeat' ((first | refine eIf_t ?_ | refine eIf_f ?_ | refine eGet_i rfl ?_ | refine eReq_i rfl ?_ | refine slLen_e ?_ | refine eIf_ct (lt_t hjl) ?_ | refine slIdx_e rfl (Int.natCast_nonneg _) hxx ?_ | refine s68 ?_ | refine eIf_i (fun _ => ?_) (fun _ => ?_)) <;> (try (conv => lhs; whnf)))
      · rename_i g
        have g' : b = true := g
        exact l_eq (hL' (j + 1, liesS y x.s0 x.s1) ⟨hjl, by show liesS y x.s0 x.s1 = _; rw [hs2, ← hb, g']; rfl⟩ (by show _ - (j + 1) < _; omega)) (by rw [wrap_up (by omega)]) rfl
      · rename_i g
        have g' : b = false := g
        exact l_eq (hL' (j + 1, false) ⟨hjl, by show false = _; rw [hs2, ← hb, g']; rfl⟩ (by show _ - (j + 1) < _; omega)) (by rw [wrap_up (by omega)]) rfl
    · have : j = s.l.length := by omega
      subst this
      rw [List.take_length, not_emptyN] at hb
      conv => lhs; whnf
      repeat' ((first | refine eIf_t ?_ | refine eIf_f ?_ | refine eGet_i rfl ?_ | refine eReq_i rfl ?_ | refine slLen_e ?_ | refine eIf_cf lt_f ?_ | refine eIf_i (fun _ => ?_) (fun _ => ?_)) <;> (try (conv => lhs; whnf)))
      · rename_i g
        have g' : b = true := g
        rw [g'] at hb
        rw [nT hb.symm] at hC
        exact hC
      · rename_i g
        have g' : b = false := g
        rw [g'] at hb
        rw [nF hb.symm, Bool.true_and] at hC
        rw [wrap_up (by omega)]
        exact hL hC
  · rw [List.drop_length] at hC
    rw [List.length_range]
    conv => lhs; whnf
    repeat' ((first | refine eIf_t ?_ | refine eIf_f ?_ | refine eGet_i rfl ?_ | refine eReq_i rfl ?_ | refine slLen_e ?_ | refine eIf_cf (show decide (((365 : Nat) : Int) < 365) = false by simp) ?_ | refine eIf_i (fun _ => ?_) (fun _ => ?_)) <;> (try (conv => lhs; whnf)))
    exact hC
theorem s28_3 {s : Sl Rul} (hs : s.l.length < 100) {things : RV} (h : K (bv (daysF s.l 127 == 0)) none fr = some r) : (CC (n+2)).fn 28 [rv (s.enc 11 Rul.enc), iv 3, rv things] fr K = some r := by
  refine cc q28_ok rfl ?_
  conv => lhs; whnf
  repeat' ((first | refine eIf_t ?_ | refine eIf_f ?_ | refine eGet_i rfl ?_ | refine eReq_i rfl ?_ | refine slLen_e ?_ | refine eIf_i (fun _ => ?_) (fun _ => ?_)) <;> (try (conv => lhs; whnf)))
  refine eLoop_i (σ := Nat × Int) (fun z => [(0, rv (s.enc 11 Rul.enc)), (11, iv z.2), (12, iv z.1)]) (fun _ => [] :: fr) (fun z => z.1 ≤ s.l.length ∧ K (bv (daysF (s.l.drop z.1) z.2 == 0)) none fr = some r) (fun z => s.l.length - z.1) (fun z L hC hL => ?_) _ (0, 127) ⟨Nat.zero_le _, h⟩ (by show _ - 0 < _; omega)
  obtain ⟨k, a⟩ := z
  obtain ⟨hk, hC⟩ := hC
  simp only at hk hC hL
  rcases Nat.lt_or_ge k s.l.length with hlt | hge
  · obtain ⟨y, hx⟩ : ∃ y, s.l[k]? = some y := ⟨_, List.getElem?_eq_getElem hlt⟩
    rw [drop_succ hx] at hC
    conv => lhs; whnf
    repeat' ((first | refine eIf_t ?_ | refine eIf_f ?_ | refine eGet_i rfl ?_ | refine eReq_i rfl ?_ | refine slLen_e ?_ | refine eIf_ct (lt_t hlt) ?_ | refine slIdx_e rfl (Int.natCast_nonneg _) hx ?_ | refine eIf_i (fun _ => ?_) (fun _ => ?_)) <;> (try (conv => lhs; whnf)))
    exact l_eq (hL (k + 1, andS a y.days) ⟨hlt, hC⟩ (by show _ - (k + 1) < _; omega)) (by rw [wrap_up (by omega)]; rfl) rfl
  · have : k = s.l.length := by omega
    subst this
    rw [List.drop_length] at hC
    conv => lhs; whnf
    repeat' ((first | refine eIf_t ?_ | refine eIf_f ?_ | refine eGet_i rfl ?_ | refine eReq_i rfl ?_ | refine slLen_e ?_ | refine eIf_cf lt_f ?_ | refine eIf_i (fun _ => ?_) (fun _ => ?_)) <;> (try (conv => lhs; whnf)))
    exact hC
theorem s28_5 {s : Sl Rul} (ok : RulsOK s.l) {things : Sl ByteArray} (ht : things.l.length < 1000000) {kind : Int} (h1 : 5 ≤ kind) (h2 : kind < 5 + things.l.length) (h : K (bv (thingS (things.l.getD (kind - 5).toNat ⟨#[]⟩) s.l)) none fr = some r) : (CC (n+2)).fn 28 [rv (s.enc 11 Rul.enc), iv kind, rv (things.enc 1 encS)] fr K = some r := by
  have hs := ok.len
  refine cc q28_ok rfl ?_
  have e1 : (kind == 1) = false := by simp; omega
  have e2 : (kind == 2) = false := by simp; omega
  have e3 : (kind == 3) = false := by simp; omega
  have e4 : (kind == 4) = false := by simp; omega
  have hx : things.l[(kind - 5).toNat]? = some (things.l.getD (kind - 5).toNat ⟨#[]⟩) := by
    rw [List.getD_eq_getElem?_getD, List.getElem?_eq_getElem (by omega)]; rfl
  have hw : IntKind.wrap .i64 (kind - 5) = kind - 5 := wrap_id (by omega) (by omega)
  generalize things.l.getD (kind - 5).toNat ⟨#[]⟩ = name at *
  conv => lhs; whnf
  repeat' ((first | refine eIf_t ?_ | refine eIf_f ?_ | refine eGet_i rfl ?_ | refine eReq_i rfl ?_ | refine slLen_e ?_ | refine eIf_cf e1 ?_ | refine eIf_cf e2 ?_ | refine eIf_cf e3 ?_ | refine eIf_cf e4 ?_ | refine eIf_i (fun _ => ?_) (fun _ => ?_)) <;> (try (conv => lhs; whnf)))
  refine eLoop_i (σ := Nat × Int × Int) (fun z => [(0, rv (s.enc 11 Rul.enc)), (1, iv kind), (2, rv (things.enc 1 encS)), (16, iv z.2.1), (17, iv z.2.2), (18, iv z.1)]) (fun _ => [] :: fr) (fun z => z.1 ≤ s.l.length ∧ K (bv (overB (thingF name (s.l.drop z.1) z.2))) none fr = some r) (fun z => s.l.length - z.1) (fun z L hC hL => ?_) _ (0, 0, 1000) ⟨Nat.zero_le _, h⟩ (by show _ - 0 < _; omega)
  obtain ⟨k, a, b⟩ := z
  obtain ⟨hk, hC⟩ := hC
  simp only at hk hC hL
  rcases Nat.lt_or_ge k s.l.length with hlt | hge
  · obtain ⟨y, hy⟩ : ∃ y, s.l[k]? = some y := ⟨_, List.getElem?_eq_getElem hlt⟩
    have hyc := ok.c y (List.mem_of_getElem? hy)
    rw [drop_succ hy] at hC
    simp only [thingF] at hC
    conv => lhs; whnf
    repeat' ((first | refine eIf_t ?_ | refine eIf_f ?_ | refine eGet_i rfl ?_ | refine eReq_i rfl ?_ | refine slLen_e ?_ | refine eIf_ct (lt_t hlt) ?_ | refine slIdx_e rfl (Int.natCast_nonneg _) hy ?_ | refine eIf_i (fun _ => ?_) (fun _ => ?_)) <;> (try (conv => lhs; whnf)))
    refine eLoop_i (σ := Nat × Int × Int) (fun z => [(0, rv (s.enc 11 Rul.enc)), (1, iv kind), (2, rv (things.enc 1 encS)), (16, iv z.2.1), (17, iv z.2.2), (18, iv k), (19, iv z.1)]) (fun _ => [] :: fr) (fun z => z.1 ≤ y.counts.l.length ∧ K (bv (overB (thingF name (s.l.drop (k + 1)) (cntF name (y.counts.l.drop z.1) z.2)))) none fr = some r) (fun z => y.counts.l.length - z.1) (fun z L' hI hL' => ?_) _ (0, a, b) ⟨Nat.zero_le _, hC⟩ (by show _ - 0 < _; omega)
    obtain ⟨j, a, b⟩ := z
    obtain ⟨hj, hI⟩ := hI
    simp only at hj hI hL'
    rcases Nat.lt_or_ge j y.counts.l.length with hjl | hjg
    · obtain ⟨c, hcx⟩ : ∃ c, y.counts.l[j]? = some c := ⟨_, List.getElem?_eq_getElem hjl⟩
      rw [drop_succ hcx] at hI
      simp only [cntF] at hI
      conv => lhs; whnf
      repeat' ((first | refine eIf_t ?_ | refine eIf_f ?_ | refine eGet_i rfl ?_ | refine eReq_i rfl ?_ | refine slLen_e ?_ | refine slIdx_e rfl (Int.natCast_nonneg _) hy ?_ | refine eIf_ct (lt_t hjl) ?_ | refine slIdx_e rfl (Int.natCast_nonneg _) hcx ?_ | refine slIdx_e rfl (by rw [hw]; omega) (by rw [hw]; exact hx) ?_ | refine eIf_i (fun _ => ?_) (fun _ => ?_)) <;> (try (conv => lhs; whnf)))
      · rename_i g
        rw [show eqB c.thing name = true from g, cond_true] at hI
        exact l_eq (hL' (j + 1, maxS a c.least, minS b c.most) ⟨hjl, hI⟩ (by show _ - (j + 1) < _; omega)) (by rw [wrap_up (by omega)]; rfl) rfl
      · rename_i g
        rw [show eqB c.thing name = false from g, cond_false] at hI
        exact l_eq (hL' (j + 1, a, b) ⟨hjl, hI⟩ (by show _ - (j + 1) < _; omega)) (by rw [wrap_up (by omega)]) rfl
    · have : j = y.counts.l.length := by omega
      subst this
      rw [List.drop_length] at hI
      conv => lhs; whnf
      repeat' ((first | refine eIf_t ?_ | refine eIf_f ?_ | refine eGet_i rfl ?_ | refine eReq_i rfl ?_ | refine slLen_e ?_ | refine slIdx_e rfl (Int.natCast_nonneg _) hy ?_ | refine eIf_cf lt_f ?_ | refine eIf_i (fun _ => ?_) (fun _ => ?_)) <;> (try (conv => lhs; whnf)))
      exact l_eq (hL (k + 1, a, b) ⟨hlt, hI⟩ (by show _ - (k + 1) < _; omega)) (by rw [wrap_up (by omega)]) rfl
  · have : k = s.l.length := by omega
    subst this
    rw [List.drop_length] at hC
    conv => lhs; whnf
    repeat' ((first | refine eIf_t ?_ | refine eIf_f ?_ | refine eGet_i rfl ?_ | refine eReq_i rfl ?_ | refine slLen_e ?_ | refine eIf_cf lt_f ?_ | refine eIf_i (fun _ => ?_) (fun _ => ?_)) <;> (try (conv => lhs; whnf)))
    exact hC
theorem s28 {s : Sl Rul} (ok : RulsOK s.l) {things : Sl ByteArray} (ht : things.l.length < 1000000) {kind : Int} (h1 : 1 ≤ kind) (h2 : kind < 5 + things.l.length) (h : K (bv (contraS s.l kind things.l)) none fr = some r) : (CC (n+2)).fn 28 [rv (s.enc 11 Rul.enc), iv kind, rv (things.enc 1 encS)] fr K = some r := by
  by_cases hk : kind < 5
  · have hk' : kind = 1 ∨ kind = 2 ∨ kind = 3 ∨ kind = 4 := by omega
    rcases hk' with rfl | rfl | rfl | rfl
    · exact s28_1 ok.len h
    · exact s28_2 ok.len h
    · exact s28_3 ok.len h
    · exact s28_4 ok.len h
  · have e1 : (kind == 1) = false := by simp; omega
    have e2 : (kind == 2) = false := by simp; omega
    have e3 : (kind == 3) = false := by simp; omega
    have e4 : (kind == 4) = false := by simp; omega
    simp only [contraS, e1, e2, e3, e4, cond_false] at h
    exact s28_5 ok ht (by omega) h2 h
end Go.PM.Try

namespace Go.PM.Try
set_option linter.unusedSectionVars false

/-! ### days as bits -/
theorem andS_nat (a b : Nat) (ha : a < 128) (hb : b < 128) : andS a b = ((a &&& b : Nat) : Int) := by
  have h1 : a &&& b < 128 := Nat.and_lt_two_pow a (n := 7) (by omega)
  have e : (BitVec.ofInt 64 (a : Int) &&& BitVec.ofInt 64 (b : Int)).toNat = a &&& b := by
    rw [BitVec.toNat_and, BitVec.ofInt_natCast, BitVec.ofInt_natCast, BitVec.toNat_ofNat, BitVec.toNat_ofNat, Nat.mod_eq_of_lt (by omega), Nat.mod_eq_of_lt (by omega)]
  show IntKind.wrap .i64 (((BitVec.ofInt 64 (a : Int) &&& BitVec.ofInt 64 (b : Int)).toNat : Nat) : Int) = _
  rw [e, wrap_id (by omega) (by omega)]
def bitOf (days : Int) (w : Nat) : Bool := days.toNat.testBit w
theorem dayBit_eq {days d : Int} (h : 0 ≤ days) (hd : 0 ≤ d) : dayBit days d = bitOf days (d % 7).toNat := by
  obtain ⟨m, rfl⟩ : ∃ m : Nat, days = m := ⟨days.toNat, by omega⟩
  unfold dayBit bitOf
  rw [Int.toNat_natCast, Nat.testBit_eq_decide_div_mod_eq]
  have e : ((m : Int) / 2 ^ (d % 7).toNat % 2) = ((m / 2 ^ (d % 7).toNat % 2 : Nat) : Int) := by
    rw [Int.natCast_emod, Int.natCast_ediv, Int.natCast_pow]; rfl
  rw [e, Bool.eq_iff_iff, beq_iff_eq, decide_eq_true_eq]
  omega
theorem daysF_bits : ∀ (l : List Rul) (a : Int), 0 ≤ a → a < 128 → (∀ x ∈ l, 0 ≤ x.days ∧ x.days ≤ 127) → 0 ≤ daysF l a ∧ daysF l a < 128 ∧ ∀ w, bitOf (daysF l a) w = (bitOf a w && l.all fun x => bitOf x.days w)
  | [], a, h1, h2, _ => ⟨h1, h2, fun w => by simp [daysF]⟩
  | x :: l, a, h1, h2, h => by
    obtain ⟨d1, d2⟩ := h x (by simp)
    obtain ⟨m, rfl⟩ : ∃ m : Nat, a = m := ⟨a.toNat, by omega⟩
    obtain ⟨k, hk⟩ : ∃ k : Nat, x.days = k := ⟨x.days.toNat, by omega⟩
    have hlt : m &&& k < 128 := Nat.and_lt_two_pow m (n := 7) (by omega)
    have e : andS m x.days = ((m &&& k : Nat) : Int) := by rw [hk]; exact andS_nat m k (by omega) (by omega)
    obtain ⟨q1, q2, q3⟩ := daysF_bits l (andS m x.days) (by rw [e]; omega) (by rw [e]; omega) fun y hy => h y (by simp [hy])
    refine ⟨q1, q2, fun w => ?_⟩
    rw [daysF, q3 w, e, List.all_cons, hk]
    simp only [bitOf, Int.toNat_natCast, Nat.testBit_and, Bool.and_assoc]
theorem daysF_zero {l : List Rul} (h : ∀ x ∈ l, 0 ≤ x.days ∧ x.days ≤ 127) : (daysF l 127 == 0) = true ↔ ∀ w, w < 7 → ∃ x ∈ l, bitOf x.days w = false := by
  obtain ⟨q1, q2, q3⟩ := daysF_bits l 127 (by omega) (by omega) h
  have b127 : ∀ w, w < 7 → bitOf 127 w = true := by decide
  rw [beq_iff_eq]
  constructor
  · intro h0 w hw
    have := q3 w
    rw [h0, b127 w hw, Bool.true_and] at this
    have e : bitOf 0 w = false := by simp [bitOf]
    rw [e] at this
    obtain ⟨x, hx, hb⟩ := List.all_eq_false.1 this.symm
    exact ⟨x, hx, by simpa using hb⟩
  · intro h0
    by_cases hz : (daysF l 127).toNat = 0
    · omega
    · exfalso
      obtain ⟨i, hi⟩ := Nat.exists_testBit_of_ne_zero hz
      have hi7 : i < 7 := by
        rcases Nat.lt_or_ge i 7 with h | h
        · exact h
        · have : (daysF l 127).toNat < 2 ^ i := Nat.lt_of_lt_of_le (show (daysF l 127).toNat < 2 ^ 7 by omega) (Nat.pow_le_pow_right (by omega) h)
          rw [Nat.testBit_lt_two_pow this] at hi; cases hi
      obtain ⟨x, hx, hb⟩ := h0 i hi7
      have := q3 i
      rw [show bitOf (daysF l 127) i = true from hi] at this
      have h2 := (Bool.and_eq_true _ _ ▸ this.symm : bitOf 127 i = true ∧ (l.all fun x => bitOf x.days i) = true).2
      rw [List.all_eq_true.1 h2 x hx] at hb; cases hb
/-! ### numbers of a thing -/
theorem maxS_le {a b m : Int} : maxS a b ≤ m ↔ a ≤ m ∧ b ≤ m := by
  unfold maxS
  by_cases h : a < b
  · rw [decide_eq_true h, cond_true]; omega
  · rw [decide_eq_false h, cond_false]; omega
theorem le_minS {a b m : Int} : m ≤ minS a b ↔ m ≤ a ∧ m ≤ b := by
  unfold minS
  by_cases h : b < a
  · rw [decide_eq_true h, cond_true]; omega
  · rw [decide_eq_false h, cond_false]; omega
theorem cntF_le (name : ByteArray) (m : Int) : ∀ (l : List Cnt) (a : Int × Int), ((cntF name l a).1 ≤ m ↔ a.1 ≤ m ∧ ∀ c ∈ l, eqB c.thing name = true → c.least ≤ m) ∧ (m ≤ (cntF name l a).2 ↔ m ≤ a.2 ∧ ∀ c ∈ l, eqB c.thing name = true → m ≤ c.most)
  | [], a => by simp [cntF]
  | c :: l, a => by
    simp only [cntF]
    cases h : eqB c.thing name with
    | false =>
      obtain ⟨h1, h2⟩ := cntF_le name m l a
      rw [cond_false, h1, h2]
      simp [h]
    | true =>
      obtain ⟨h1, h2⟩ := cntF_le name m l (maxS a.1 c.least, minS a.2 c.most)
      rw [cond_true, h1, h2]
      simp only [maxS_le, le_minS, List.mem_cons, forall_eq_or_imp, h, true_implies]
      exact ⟨by rw [and_assoc], by rw [and_assoc]⟩
theorem thingF_le (name : ByteArray) (m : Int) : ∀ (l : List Rul) (a : Int × Int), ((thingF name l a).1 ≤ m ↔ a.1 ≤ m ∧ ∀ x ∈ l, ∀ c ∈ x.counts.l, eqB c.thing name = true → c.least ≤ m) ∧ (m ≤ (thingF name l a).2 ↔ m ≤ a.2 ∧ ∀ x ∈ l, ∀ c ∈ x.counts.l, eqB c.thing name = true → m ≤ c.most)
  | [], a => by simp [thingF]
  | x :: l, a => by
    obtain ⟨h1, h2⟩ := thingF_le name m l (cntF name x.counts.l a)
    obtain ⟨h3, h4⟩ := cntF_le name m x.counts.l a
    simp only [thingF]
    rw [h1, h2, h3, h4]
    simp only [List.mem_cons, forall_eq_or_imp]
    exact ⟨by rw [and_assoc], by rw [and_assoc]⟩
theorem RulsOK.sub {l l' : List Rul} (h : RulsOK l') (hs : l.Sublist l') : RulsOK l :=
  ⟨Nat.lt_of_le_of_lt hs.length_le h.len, fun x hx => h.t x (hs.subset hx), fun x hx => h.c x (hs.subset hx)⟩
theorem contraS_sub {l l' : List Rul} (ok : RulsOK l') (hsub : l ⊆ l') {k : Int} {ts : List ByteArray} (h : contraS l k ts = true) : contraS l' k ts = true := by
  have anyM : ∀ p : Rul → Bool, l.any p = true → l'.any p = true := fun p hp => by
    obtain ⟨x, hx, hq⟩ := List.any_eq_true.1 hp
    exact List.any_eq_true.2 ⟨x, hsub hx, hq⟩
  have allM : ∀ (m : Nat) (p : List Rul → Nat → Bool), (∀ v, p l v = true → p l' v = true) → (List.range m).all (p l) = true → (List.range m).all (p l') = true := fun m p hp hq => by
    rw [List.all_eq_true] at hq ⊢
    exact fun v hv => hp v (hq v hv)
  unfold contraS at h ⊢
  cases e1 : (k == 1) with
  | true =>
    rw [e1] at h
    simp only [cond_true] at h ⊢
    exact anyM _ h
  | false =>
    rw [e1] at h
    cases e2 : (k == 2) with
    | true =>
      rw [e2] at h
      simp only [cond_true, cond_false] at h ⊢
      exact allM 1440 emptyH (fun v => anyM _) h
    | false =>
      rw [e2] at h
      cases e3 : (k == 3) with
      | true =>
        rw [e3] at h
        simp only [cond_true, cond_false] at h ⊢
        rw [daysF_zero fun x hx => ⟨(ok.t x hx).d0, (ok.t x hx).d1⟩]
        intro w hw
        obtain ⟨x, hx, hb⟩ := (daysF_zero fun x hx => ⟨(ok.t x (hsub hx)).d0, (ok.t x (hsub hx)).d1⟩).1 h w hw
        exact ⟨x, hsub hx, hb⟩
      | false =>
        rw [e3] at h
        cases e4 : (k == 4) with
        | true =>
          rw [e4] at h
          simp only [cond_true, cond_false] at h ⊢
          exact allM 365 emptyN (fun v => anyM _) h
        | false =>
          rw [e4] at h
          simp only [cond_false] at h ⊢
          generalize ts.getD (k - 5).toNat ⟨#[]⟩ = name at *
          simp only [thingS, overB, decide_eq_true_eq] at h ⊢
          have h1 := ((thingF_le name (thingF name l' (0, 1000)).1 l' (0, 1000)).1).1 (Int.le_refl _)
          have h2 := ((thingF_le name (thingF name l' (0, 1000)).2 l' (0, 1000)).2).1 (Int.le_refl _)
          have h3 := ((thingF_le name (thingF name l' (0, 1000)).1 l (0, 1000)).1).2 ⟨h1.1, fun x hx => h1.2 x (hsub hx)⟩
          have h4 := ((thingF_le name (thingF name l' (0, 1000)).2 l (0, 1000)).2).2 ⟨h2.1, fun x hx => h2.2 x (hsub hx)⟩
          omega
theorem contraS_mono {l l' : List Rul} (ok : RulsOK l') (hs : l.Sublist l') {k : Int} {ts : List ByteArray} (h : contraS l k ts = true) : contraS l' k ts = true := contraS_sub ok hs.subset h
/-! ### what is left of a conflict -/
theorem erase_comm {α : Type} : ∀ (l : List α) (i j : Nat), i ≤ j → (l.eraseIdx i).eraseIdx j = (l.eraseIdx (j + 1)).eraseIdx i
  | [], i, j, _ => by simp
  | x :: l, 0, j, _ => by simp [List.eraseIdx_cons_succ]
  | x :: l, i + 1, 0, h => by omega
  | x :: l, i + 1, j + 1, h => by
    simp only [List.eraseIdx_cons_succ]
    rw [erase_comm l i j (by omega)]
/-- Some of the rules, with their numbers. -/
structure Some (l : List Rul) (ns : List Int) (s : List Rul × List Int) : Prop where
  rl : s.1.Sublist l
  ex : ∃ ix : List Nat, ix.Pairwise (· < ·) ∧ s.1.map some = ix.map (l[·]?) ∧ s.2.map some = ix.map (ns[·]?)
theorem eraseIdx_map {α β : Type} (f : α → β) : ∀ (l : List α) (i : Nat), (l.eraseIdx i).map f = (l.map f).eraseIdx i
  | [], i => by simp
  | x :: l, 0 => by simp
  | x :: l, i + 1 => by simp [eraseIdx_map f l i]
theorem Some.erase {l : List Rul} {ns : List Int} {s : List Rul × List Int} (h : Some l ns s) (i : Nat) : Some l ns (s.1.eraseIdx i, s.2.eraseIdx i) := by
  obtain ⟨ix, h1, h2, h3⟩ := h.ex
  exact ⟨(List.eraseIdx_sublist _ _).trans h.rl, ix.eraseIdx i, h1.sublist (List.eraseIdx_sublist _ _), by simp only [eraseIdx_map, h2], by simp only [eraseIdx_map, h3]⟩
theorem dropF_ok {l : List Rul} (ok : RulsOK l) {ns : List Int} {kind : Int} {ts : List ByteArray} : ∀ (m : Nat) (s : List Rul × List Int), Some l ns s → m ≤ s.1.length → contraS s.1 kind ts = true → (∀ j, m ≤ j → j < s.1.length → contraS (s.1.eraseIdx j) kind ts = false) →
    Some l ns (dropF kind ts m s) ∧ contraS (dropF kind ts m s).1 kind ts = true ∧ ∀ j, j < (dropF kind ts m s).1.length → contraS ((dropF kind ts m s).1.eraseIdx j) kind ts = false
  | 0, s, h1, h2, h3, h4 => ⟨h1, h3, fun j hj => h4 j (Nat.zero_le _) hj⟩
  | i + 1, s, h1, h2, h3, h4 => by
    simp only [dropF]
    cases hc : contraS (s.1.eraseIdx i) kind ts with
    | true =>
      rw [cond_true]
      refine dropF_ok ok i _ (h1.erase i) (by show i ≤ (s.1.eraseIdx i).length; rw [List.length_eraseIdx, if_pos (by omega)]; omega) hc fun j hj hjl => ?_
      have hjl' : j < s.1.length - 1 := by
        have : (s.1.eraseIdx i).length = s.1.length - 1 := by rw [List.length_eraseIdx, if_pos (by omega)]
        have h5 : j < (s.1.eraseIdx i).length := hjl
        omega
      cases hd : contraS ((s.1.eraseIdx i).eraseIdx j) kind ts with
      | false => rfl
      | true =>
        rw [erase_comm s.1 i j hj] at hd
        have := contraS_mono (ok.sub ((List.eraseIdx_sublist _ _).trans h1.rl)) (List.eraseIdx_sublist (s.1.eraseIdx (j + 1)) i) hd
        rw [h4 (j + 1) (by omega) (by omega)] at this
        cases this
    | false =>
      rw [cond_false]
      refine dropF_ok ok i s h1 (by omega) h3 fun j hj hjl => ?_
      rcases Nat.lt_or_ge i j with h | h
      · exact h4 j h hjl
      · have : j = i := by omega
        subst this; exact hc
theorem some_all (l : List Rul) (ns : List Int) (h : ns.length = l.length) : Some l ns (l, ns) := by
  refine ⟨List.Sublist.refl _, List.range l.length, List.pairwise_lt_range, ?_, ?_⟩
  · apply List.ext_getElem?
    intro i
    simp only [List.getElem?_map]
    by_cases hi : i < l.length
    · rw [List.getElem?_range hi]; simp [hi]
    · rw [List.getElem?_eq_none (by omega), List.getElem?_eq_none (by simp; omega)]; rfl
  · apply List.ext_getElem?
    intro i
    simp only [List.getElem?_map]
    by_cases hi : i < l.length
    · rw [List.getElem?_range hi]; simp [h, hi]
    · rw [List.getElem?_eq_none (by omega), List.getElem?_eq_none (by simp; omega)]; rfl
theorem kindF_zero {l : List Rul} {ts : List ByteArray} : ∀ (n : Nat) (k : Int), 1 ≤ k → kindF l ts n k = 0 → ∀ j, k ≤ j → j < k + n → contraS l j ts = false
  | 0, k, _, _, j, h1, h2 => by omega
  | n + 1, k, hk, h, j, h1, h2 => by
    simp only [kindF] at h
    cases hc : contraS l k ts with
    | true => rw [hc, cond_true] at h; omega
    | false =>
      rw [hc, cond_false] at h
      by_cases e : j = k
      · rw [e]; exact hc
      · exact kindF_zero n (k + 1) (by omega) h j (by omega) (by omega)
theorem kindS_zero {l : List Rul} (h : kindS l = 0) {j : Int} (h1 : 1 ≤ j) (h2 : j < 5 + (thingsS l).length) : contraS l j (thingsS l) = false := kindF_zero (4 + (thingsS l).length) 1 (by omega) h j h1 (by omega)
end Go.PM.Try

namespace Go.PM.Try
open Go.Proofs
attribute [local irreducible] eIf eReq eGet eNil slLen slRows slIdx slSub slZero slView eFind eLoopN CC Sl.enc
variable {R : Type} [Stops R] [CCW R] {n : Nat} {fr : Frames} {K : PV → Option LB → Frames → Option R} {r : R}
set_option maxRecDepth 8000
set_option linter.unusedSectionVars false

def okC (name : ByteArray) (n : Int) (c : Cnt) : Bool := !(eqB c.thing name && (decide (n < c.least) || decide (n > c.most)))
def okN (l : List Rul) (name : ByteArray) (n : Int) : Bool := l.all fun x => x.counts.l.all (okC name n)
theorem okN_of {l : List Rul} {name : ByteArray} (h : thingS name l = false) : ∃ n : Nat, n ≤ 1000 ∧ okN l name n = true := by
  simp only [thingS, overB, decide_eq_false_iff_not] at h
  have h1 := ((thingF_le name (thingF name l (0, 1000)).1 l (0, 1000)).1).1 (Int.le_refl _)
  have h2 := ((thingF_le name (thingF name l (0, 1000)).2 l (0, 1000)).2).1 (Int.le_refl _)
  have b1 : 0 ≤ (thingF name l (0, 1000)).1 := h1.1
  have b2 : (thingF name l (0, 1000)).2 ≤ 1000 := h2.1
  refine ⟨(thingF name l (0, 1000)).1.toNat, by omega, ?_⟩
  rw [show (((thingF name l (0, 1000)).1.toNat : Nat) : Int) = (thingF name l (0, 1000)).1 by omega]
  rw [okN, List.all_eq_true]
  intro x hx
  rw [List.all_eq_true]
  intro c hc
  unfold okC
  cases he : eqB c.thing name with
  | false => rfl
  | true =>
    have q1 := h1.2 x hx c hc he
    have q2 := h2.2 x hx c hc he
    rw [decide_eq_false (by omega), decide_eq_false (by omega)]; rfl
/-- No day of seven years and no minute speaks against all. -/
theorem days_of {l : List Rul} (ok : RulsOK l) (h1 : forbidS l = false) (h3 : (daysF l 127 == 0) = false) (h4 : (List.range 365).all (emptyN l) = false) {m : Int} (hm0 : 0 ≤ m) (hm : m < 1440) (hl : (l.all fun x => liesS m x.h0 x.h1) = true) : ∃ d : Nat, d < 2555 ∧ allS l (1440 * d + m) = true := by
  have hw : ∃ w, w < 7 ∧ ∀ x ∈ l, bitOf x.days w = true := by
    by_cases hx : ∀ w, w < 7 → ∃ x ∈ l, bitOf x.days w = false
    · rw [(daysF_zero fun x hx => ⟨(ok.t x hx).d0, (ok.t x hx).d1⟩).2 hx] at h3; cases h3
    · simp only [Classical.not_forall, not_exists, not_and] at hx
      obtain ⟨w, hw, hx⟩ := hx
      exact ⟨w, hw, fun x hx' => by simpa using hx x hx'⟩
  obtain ⟨w, hw, hbits⟩ := hw
  obtain ⟨d0, hd0, hd⟩ := List.all_eq_false.1 h4
  have hd0' : d0 < 365 := by simpa using hd0
  have hd' : emptyN l d0 = false := by simpa using hd
  have hseason : ∀ x ∈ l, liesS d0 x.s0 x.s1 = true := by
    have := not_emptyN l d0
    rw [hd'] at this
    exact List.all_eq_true.1 this
  -- a day of the week and of the year
  obtain ⟨j, hj⟩ : ∃ j, j = (w + 7 - d0 % 7) % 7 := ⟨_, rfl⟩
  refine ⟨d0 + 365 * j, by omega, ?_⟩
  rw [allS, List.all_eq_true]
  intro x hx
  have hdiv : (1440 * ((d0 + 365 * j : Nat) : Int) + m) / 1440 = ((d0 + 365 * j : Nat) : Int) := by omega
  have hmod : (1440 * ((d0 + 365 * j : Nat) : Int) + m) % 1440 = m := by omega
  unfold allowsS
  rw [hdiv, hmod, List.all_eq_true.1 hl x hx, Bool.and_true]
  unfold dayS
  have f : x.forbid = false := by
    have := List.any_eq_false.1 h1 x hx
    simpa using this
  have e7 : (((d0 + 365 * j : Nat) : Int) % 7).toNat = w := by omega
  have e365 : ((d0 + 365 * j : Nat) : Int) % 365 = (d0 : Int) := by omega
  rw [f, dayBit_eq (ok.t x hx).d0 (by omega), e7, hbits x hx, e365, hseason x hx]; rfl
set_option maxHeartbeats 4000000 in
set_option maxRecDepth 60000 in
theorem s27 {s : Sl Rul} (ok : RulsOK s.l) {things : Sl ByteArray} (hts : things.l.length < 1000000) (hR : ∀ x ∈ s.l, RulT x)
    (H1 : ∀ name ∈ things.l, ∃ n : Nat, n ≤ 1000 ∧ okN s.l name n = true) (H2 : ∃ m : Nat, m < 1440 ∧ (s.l.all fun x => liesS m x.h0 x.h1) = true)
    (H3 : ∀ m : Int, 0 ≤ m → m < 1440 → (s.l.all fun x => liesS m x.h0 x.h1) = true → ∃ d : Nat, d < 2555 ∧ allS s.l (1440 * d + m) = true) (h : K (bv true) none fr = some r) : (CC (n+6)).fn 27 [rv (s.enc 11 Rul.enc), rv (things.enc 1 encS)] fr K = some r := by
  have hs := ok.len
  refine cc q27_ok rfl ?_
  conv => lhs; whnf
  repeat' ((first | refine eIf_t ?_ | refine eIf_f ?_ | refine eGet_i rfl ?_ | refine eReq_i rfl ?_ | refine slLen_e ?_ | refine eIf_i (fun _ => ?_) (fun _ => ?_)) <;> (try (conv => lhs; whnf)))
  refine eLoop_l things.l (fun k => [(0, rv (s.enc 11 Rul.enc)), (1, rv (things.enc 1 encS)), (5, iv k)]) (fun _ => [] :: fr) (fun _ => True) (fun k name L hx hk _ hL => ?_) (fun L _ => ?_) _ (by omega) trivial
  · obtain ⟨n0, hn0, hok⟩ := H1 name (List.mem_of_getElem? hx)
    conv => lhs; whnf
    repeat' ((first | refine eIf_t ?_ | refine eIf_f ?_ | refine eGet_i rfl ?_ | refine eReq_i rfl ?_ | refine slLen_e ?_ | refine eIf_ct (lt_t hk) ?_ | refine eIf_i (fun _ => ?_) (fun _ => ?_)) <;> (try (conv => lhs; whnf)))
    refine eLoop_i (R := R) (σ := Nat × Bool) (fun z => [(0, rv (s.enc 11 Rul.enc)), (1, rv (things.enc 1 encS)), (5, iv k), (6, bv z.2), (7, iv z.1)]) (fun _ => [] :: fr) (fun z => z.2 = true ∨ z.1 ≤ n0) (fun z => 1002 - z.1 + (bif z.2 then 0 else 1)) (fun z L' hC hL' => ?_) _ (0, false) (.inr (Nat.zero_le _)) (by show 1002 - 0 + 1 < _; omega)
    obtain ⟨m, b⟩ := z
    simp only at hC hL'
    cases b with
    | true =>
      conv => lhs; whnf
      repeat' ((first | refine eIf_t ?_ | refine eIf_f ?_ | refine eGet_i rfl ?_ | refine eReq_i rfl ?_ | refine slLen_e ?_ | refine eIf_i (fun _ => ?_) (fun _ => ?_)) <;> (try (conv => lhs; whnf)))
      all_goals exact l_eq (hL trivial) (by rw [wrap_up (by omega)]) rfl
    | false =>
      have hmn : m ≤ n0 := by
        rcases hC with h | h
        · cases h
        · exact h
      conv => lhs; whnf
      repeat' ((first | refine eIf_t ?_ | refine eIf_f ?_ | refine eGet_i rfl ?_ | refine eReq_i rfl ?_ | refine slLen_e ?_ | refine eIf_ct (show decide ((m : Int) ≤ 1000) = true from decide_eq_true (by omega)) ?_ | refine eIf_i (fun _ => ?_) (fun _ => ?_)) <;> (try (conv => lhs; whnf)))
      refine eLoop_i (R := R) (σ := Nat × Bool) (fun z => [(0, rv (s.enc 11 Rul.enc)), (1, rv (things.enc 1 encS)), (5, iv k), (6, bv z.2), (7, iv m), (8, iv z.1)]) (fun _ => [] :: fr) (fun z => z.1 ≤ s.l.length ∧ z.2 = okN (s.l.take z.1) name m) (fun z => s.l.length - z.1) (fun z L'' hI hL'' => ?_) _ (0, true) ⟨Nat.zero_le _, by simp [okN]⟩ (by show _ - 0 < _; omega)
      obtain ⟨i, b⟩ := z
      obtain ⟨hi, hb⟩ := hI
      simp only at hi hb hL''
      rcases Nat.lt_or_ge i s.l.length with hil | hig
      · obtain ⟨y, hy⟩ : ∃ y, s.l[i]? = some y := ⟨_, List.getElem?_eq_getElem hil⟩
        have hyc := ok.c y (List.mem_of_getElem? hy)
        have hs2 : okN (s.l.take (i + 1)) name m = (okN (s.l.take i) name m && y.counts.l.all (okC name m)) := by rw [take_succ hy]; simp [okN]
        conv => lhs; whnf
        repeat' ((first | refine eIf_t ?_ | refine eIf_f ?_ | refine eGet_i rfl ?_ | refine eReq_i rfl ?_ | refine slLen_e ?_ | refine eIf_ct (lt_t hil) ?_ | refine eIf_i (fun _ => ?_) (fun _ => ?_)) <;> (try (conv => lhs; whnf)))
        refine eLoop_i (R := R) (σ := Nat × Bool) (fun z => [(0, rv (s.enc 11 Rul.enc)), (1, rv (things.enc 1 encS)), (5, iv k), (6, bv z.2), (7, iv m), (8, iv i), (9, iv z.1)]) (fun _ => [] :: fr) (fun z => z.1 ≤ y.counts.l.length ∧ z.2 = (okN (s.l.take i) name m && (y.counts.l.take z.1).all (okC name m))) (fun z => y.counts.l.length - z.1) (fun z L3 hJ hL3 => ?_) _ (0, b) ⟨Nat.zero_le _, by simp [hb]⟩ (by show _ - 0 < _; omega)
        obtain ⟨j, b2⟩ := z
        obtain ⟨hj, hb2⟩ := hJ
        simp only at hj hb2 hL3
        rcases Nat.lt_or_ge j y.counts.l.length with hjl | hjg
        · obtain ⟨c, hc⟩ : ∃ c, y.counts.l[j]? = some c := ⟨_, List.getElem?_eq_getElem hjl⟩
          have hs3 : (y.counts.l.take (j + 1)).all (okC name m) = ((y.counts.l.take j).all (okC name m) && okC name m c) := by rw [take_succ hc]; simp
          have hbad : okC name m c = false → L3 [(0, rv (s.enc 11 Rul.enc)), (1, rv (things.enc 1 encS)), (5, iv k), (6, bv false), (7, iv m), (8, iv i), (9, iv (IntKind.wrap .i64 ((j : Int) + 1)))] ([] :: fr) = some r := fun hq => by
            rw [wrap_up (by omega)]
            exact hL3 (j + 1, false) ⟨hjl, by show false = _; rw [hs3, hq]; simp⟩ (by show _ - (j + 1) < _; omega)
          have hgood : okC name m c = true → L3 [(0, rv (s.enc 11 Rul.enc)), (1, rv (things.enc 1 encS)), (5, iv k), (6, bv b2), (7, iv m), (8, iv i), (9, iv (IntKind.wrap .i64 ((j : Int) + 1)))] ([] :: fr) = some r := fun hq => by
            rw [wrap_up (by omega)]
            exact hL3 (j + 1, b2) ⟨hjl, by show b2 = _; rw [hs3, hq, hb2]; simp⟩ (by show _ - (j + 1) < _; omega)
          conv => lhs; whnf
          repeat' ((first | refine eIf_t ?_ | refine eIf_f ?_ | refine eGet_i rfl ?_ | refine eReq_i rfl ?_ | refine slLen_e ?_ | refine slIdx_e rfl (Int.natCast_nonneg _) hy ?_ | refine eIf_ct (lt_t hjl) ?_ | refine slIdx_e rfl (Int.natCast_nonneg _) hc ?_ | refine slIdx_e rfl (Int.natCast_nonneg _) hx ?_ | refine eIf_i (fun _ => ?_) (fun _ => ?_)) <;> (try (conv => lhs; whnf)))
          · rename_i g1 g2
            exact hbad (by unfold okC; rw [show eqB c.thing name = true from g1, g2]; rfl)
          · rename_i g1 g2 g3
            exact hbad (by unfold okC; rw [show eqB c.thing name = true from g1, g2, g3]; rfl)
          · rename_i g1 g2 g3
            exact hgood (by unfold okC; rw [show eqB c.thing name = true from g1, g2, g3]; rfl)
          · rename_i g1
            exact hgood (by unfold okC; rw [show eqB c.thing name = false from g1]; rfl)
        · have : j = y.counts.l.length := by omega
          subst this
          rw [List.take_length, ← hs2] at hb2
          conv => lhs; whnf
          repeat' ((first | refine eIf_t ?_ | refine eIf_f ?_ | refine eGet_i rfl ?_ | refine eReq_i rfl ?_ | refine slLen_e ?_ | refine slIdx_e rfl (Int.natCast_nonneg _) hy ?_ | refine eIf_cf lt_f ?_ | refine eIf_i (fun _ => ?_) (fun _ => ?_)) <;> (try (conv => lhs; whnf)))
          exact l_eq (hL'' (i + 1, b2) ⟨hil, hb2⟩ (by show _ - (i + 1) < _; omega)) (by rw [wrap_up (by omega)]) rfl
      · have : i = s.l.length := by omega
        subst this
        rw [List.take_length] at hb
        conv => lhs; whnf
        repeat' ((first | refine eIf_t ?_ | refine eIf_f ?_ | refine eGet_i rfl ?_ | refine eReq_i rfl ?_ | refine slLen_e ?_ | refine eIf_cf lt_f ?_ | refine eIf_i (fun _ => ?_) (fun _ => ?_)) <;> (try (conv => lhs; whnf)))
        refine l_eq (hL' (m + 1, b) ?_ ?_) (by rw [wrap_up (by omega)]) rfl
        · show b = true ∨ m + 1 ≤ n0
          cases b with
          | true => exact .inl rfl
          | false =>
            refine .inr ?_
            by_cases e : m = n0
            · rw [e, hok] at hb; cases hb
            · omega
        · show 1002 - (m + 1) + (bif b then 0 else 1) < 1002 - m + 1
          cases b <;> simp <;> omega
  · conv => lhs; whnf
    repeat' ((first | refine eIf_t ?_ | refine eIf_f ?_ | refine eGet_i rfl ?_ | refine eReq_i rfl ?_ | refine slLen_e ?_ | refine eIf_cf lt_f ?_ | refine eIf_i (fun _ => ?_) (fun _ => ?_)) <;> (try (conv => lhs; whnf)))
    obtain ⟨m0, hm0, hm1⟩ := H2
    refine eLoop_i (R := R) (σ := Nat × Int) (fun z => [(0, rv (s.enc 11 Rul.enc)), (11, iv z.2), (12, iv z.1)]) (fun _ => [] :: fr) (fun z => (z.2 = -1 ∧ z.1 ≤ m0) ∨ (0 ≤ z.2 ∧ z.2 < 1440 ∧ z.1 ≤ 1440 ∧ (s.l.all fun x => liesS z.2 x.h0 x.h1) = true)) (fun z => 1500 - z.1) (fun z L hC hL => ?_) _ (0, -1) (.inl ⟨rfl, Nat.zero_le _⟩) (by show 1500 - 0 < _; omega)
    obtain ⟨m, mi⟩ := z
    simp only at hC hL
    rcases hC with ⟨rfl, hmn⟩ | ⟨c1, c2, c3, c4⟩
    · conv => lhs; whnf
      repeat' ((first | refine eIf_t ?_ | refine eIf_f ?_ | refine eGet_i rfl ?_ | refine eReq_i rfl ?_ | refine slLen_e ?_ | refine eIf_ct (show decide ((m : Int) < 1440) = true from decide_eq_true (by omega)) ?_ | refine eIf_i (fun _ => ?_) (fun _ => ?_)) <;> (try (conv => lhs; whnf)))
      refine eLoop_i (R := R) (σ := Nat × Int) (fun z => [(0, rv (s.enc 11 Rul.enc)), (11, iv z.2), (12, iv m), (13, iv z.1)]) (fun _ => [] :: fr) (fun z => z.1 ≤ s.l.length ∧ z.2 = bif (s.l.take z.1).all fun x => liesS m x.h0 x.h1 then (m : Int) else -1) (fun z => s.l.length - z.1) (fun z L' hI hL' => ?_) _ (0, (m : Int)) ⟨Nat.zero_le _, by simp⟩ (by show _ - 0 < _; omega)
      obtain ⟨i, mi⟩ := z
      obtain ⟨hi, hmi⟩ := hI
      simp only at hi hmi hL'
      rcases Nat.lt_or_ge i s.l.length with hil | hig
      · obtain ⟨y, hy⟩ : ∃ y, s.l[i]? = some y := ⟨_, List.getElem?_eq_getElem hil⟩
        have hs2 : ((s.l.take (i + 1)).all fun x => liesS m x.h0 x.h1) = (((s.l.take i).all fun x => liesS m x.h0 x.h1) && liesS m y.h0 y.h1) := by rw [take_succ hy]; simp
        conv => lhs; whnf
        repeat' ((first | refine eIf_t ?_ | refine eIf_f ?_ | refine eGet_i rfl ?_ | refine eReq_i rfl ?_ | refine slLen_e ?_ | refine eIf_ct (lt_t hil) ?_ | refine slIdx_e rfl (Int.natCast_nonneg _) hy ?_ | refine s68 ?_ | refine eIf_i (fun _ => ?_) (fun _ => ?_)) <;> (try (conv => lhs; whnf)))
        · rename_i g
          exact l_eq (hL' (i + 1, -1) ⟨hil, by show -1 = _; rw [hs2, nT g, Bool.and_false]; rfl⟩ (by show _ - (i + 1) < _; omega)) (by rw [wrap_up (by omega)]) rfl
        · rename_i g
          exact l_eq (hL' (i + 1, mi) ⟨hil, by show mi = _; rw [hs2, nF g, Bool.and_true]; exact hmi⟩ (by show _ - (i + 1) < _; omega)) (by rw [wrap_up (by omega)]) rfl
      · have : i = s.l.length := by omega
        subst this
        rw [List.take_length] at hmi
        conv => lhs; whnf
        repeat' ((first | refine eIf_t ?_ | refine eIf_f ?_ | refine eGet_i rfl ?_ | refine eReq_i rfl ?_ | refine slLen_e ?_ | refine eIf_cf lt_f ?_ | refine eIf_i (fun _ => ?_) (fun _ => ?_)) <;> (try (conv => lhs; whnf)))
        refine l_eq (hL (m + 1, mi) ?_ (by show 1500 - (m + 1) < 1500 - m; omega)) (by rw [wrap_up (by omega)]) rfl
        cases ha : s.l.all fun x => liesS m x.h0 x.h1 with
        | true =>
          rw [ha, cond_true] at hmi
          exact .inr ⟨by show 0 ≤ mi; omega, by show mi < 1440; omega, by show m + 1 ≤ 1440; omega, by show (s.l.all fun x => liesS mi x.h0 x.h1) = true; rw [hmi]; exact ha⟩
        | false =>
          rw [ha, cond_false] at hmi
          refine .inl ⟨hmi, ?_⟩
          show m + 1 ≤ m0
          by_cases e : m = m0
          · rw [e, hm1] at ha; cases ha
          · omega
    · obtain ⟨d0, hd0, hd1⟩ := H3 mi c1 c2 c4
      conv => lhs; whnf
      repeat' ((first | refine eIf_t ?_ | refine eIf_f ?_ | refine eGet_i rfl ?_ | refine eReq_i rfl ?_ | refine slLen_e ?_ | refine eIf_cf (show decide (mi < 0) = false from decide_eq_false (by omega)) ?_ | refine eIf_i (fun _ => ?_) (fun _ => ?_)) <;> (try (conv => lhs; whnf)))
      refine eLoop_i (R := R) (σ := Nat) (fun d => [(0, rv (s.enc 11 Rul.enc)), (11, iv mi), (14, iv d)]) (fun _ => [] :: fr) (fun d => d ≤ d0) (fun d => 2600 - d) (fun d L hC hL => ?_) _ 0 (Nat.zero_le _) (by show 2600 - 0 < _; omega)
      have hw : IntKind.wrap .i64 (IntKind.wrap .i64 (1440 * (d : Int)) + mi) = 1440 * (d : Int) + mi := by rw [wrap_id (x := 1440 * (d : Int)) (by omega) (by omega), wrap_id (by omega) (by omega)]
      conv => lhs; whnf
      repeat' ((first | refine eIf_t ?_ | refine eIf_f ?_ | refine eGet_i rfl ?_ | refine eReq_i rfl ?_ | refine slLen_e ?_ | refine eIf_ct (show decide ((d : Int) < 2555) = true from decide_eq_true (by omega)) ?_ | refine eIf_ct (show decide (mi ≥ 0) = true from decide_eq_true c1) ?_ | refine s24 (by omega) hR (by rw [hw]; omega) (by omega) (by omega) (by rw [hw]; omega) ?_ | refine eIf_i (fun _ => ?_) (fun _ => ?_)) <;> (try (conv => lhs; whnf)))
      · exact h
      · rename_i g
        refine l_eq (hL (d + 1) ?_ (by show 2600 - (d + 1) < 2600 - d; omega)) (by rw [wrap_up (by omega)]) rfl
        by_cases e : d = d0
        · exfalso
          rw [hw] at g
          have : freeS s.l (1440 * (d : Int) + mi) 1 = true := by rw [freeS_iff]; intro t t1 t2; rw [show t = 1440 * (d0 : Int) + mi by omega]; exact hd1
          rw [show (1 : Int).toNat = 1 from rfl, this] at g; cases g
        · show d + 1 ≤ d0
          omega
      refine eLoop_i (R := R) (σ := Nat) (fun d => [(0, rv (s.enc 11 Rul.enc)), (11, iv mi), (14, iv d)]) (fun _ => [] :: fr) (fun d => d ≤ d0) (fun d => 2600 - d) (fun d L hC hL => ?_) _ 0 (Nat.zero_le _) (by show 2600 - 0 < _; omega)
      have hw : IntKind.wrap .i64 (IntKind.wrap .i64 (1440 * (d : Int)) + mi) = 1440 * (d : Int) + mi := by rw [wrap_id (x := 1440 * (d : Int)) (by omega) (by omega), wrap_id (by omega) (by omega)]
      conv => lhs; whnf
      repeat' ((first | refine eIf_t ?_ | refine eIf_f ?_ | refine eGet_i rfl ?_ | refine eReq_i rfl ?_ | refine slLen_e ?_ | refine eIf_ct (show decide ((d : Int) < 2555) = true from decide_eq_true (by omega)) ?_ | refine eIf_ct (show decide (mi ≥ 0) = true from decide_eq_true c1) ?_ | refine s24 (by omega) hR (by rw [hw]; omega) (by omega) (by omega) (by rw [hw]; omega) ?_ | refine eIf_i (fun _ => ?_) (fun _ => ?_)) <;> (try (conv => lhs; whnf)))
      · exact h
      · rename_i g
        refine l_eq (hL (d + 1) ?_ (by show 2600 - (d + 1) < 2600 - d; omega)) (by rw [wrap_up (by omega)]) rfl
        by_cases e : d = d0
        · exfalso
          rw [hw] at g
          have : freeS s.l (1440 * (d : Int) + mi) 1 = true := by rw [freeS_iff]; intro t t1 t2; rw [show t = 1440 * (d0 : Int) + mi by omega]; exact hd1
          rw [show (1 : Int).toNat = 1 from rfl, this] at g; cases g
        · show d + 1 ≤ d0
          omega
end Go.PM.Try

namespace Go.PM.Try
open Go.Proofs
attribute [local irreducible] eIf eReq eGet eNil slLen slRows slIdx slSub slZero slView eFind eLoopN CC Sl.enc
variable {R : Type} [Stops R] [CCW R] {n : Nat} {fr : Frames} {K : PV → Option LB → Frames → Option R} {r : R}
set_option maxRecDepth 8000
set_option linter.unusedSectionVars false

theorem numsR_get {n0 m j : Nat} (h : j < m) : (numsR n0 m)[j]? = some ((n0 + j : Nat) : Int) := by
  unfold numsR
  rw [List.getElem?_map, List.getElem?_range h]; rfl
theorem numsR_len (n0 m : Nat) : (numsR n0 m).length = m := by simp [numsR]
theorem s28t {l : List Rul} (ok : RulsOK l) {things : Sl ByteArray} (ht : things.l.length < 1000000) {kind : Int} (h1 : 1 ≤ kind) (h2 : kind < 5 + things.l.length) (h : K (bv (contraS l kind things.l)) none fr = some r) : (CC (n+2)).fn 28 [rv (sealT 11 (l.map Rul.enc)), iv kind, rv (things.enc 1 encS)] fr K = some r := by
  rw [seal_enc]
  exact s28 (s := ⟨0, l⟩) ok ht h1 h2 h
theorem s28r {l : List Rul} {rows : List (List RV)} (hr : rows = l.map Rul.enc) (ok : RulsOK l) {things : Sl ByteArray} (ht : things.l.length < 1000000) {kind : Int} (h1 : 1 ≤ kind) (h2 : kind < 5 + things.l.length) (h : K (bv (contraS l kind things.l)) none fr = some r) : (CC (n+2)).fn 28 [rv (sealT 11 rows), iv kind, rv (things.enc 1 encS)] fr K = some r := by
  rw [hr]
  exact s28t ok ht h1 h2 h
theorem s28n {l : List Rul} (hl : l = []) (ok : RulsOK l) {things : Sl ByteArray} (ht : things.l.length < 1000000) {kind : Int} (h1 : 1 ≤ kind) (h2 : kind < 5 + things.l.length) (h : K (bv (contraS l kind things.l)) none fr = some r) : (CC (n+2)).fn 28 [rv .esl, iv kind, rv (things.enc 1 encS)] fr K = some r := by
  rw [esl_enc 11 Rul.enc, ← hl]
  exact s28 (s := ⟨1, l⟩) ok ht h1 h2 h
theorem ruls_at {l : List Aut} {t : Trp} {p : Int} {q : Pas} (h : At l t p q) : RulsOK (ownR l t.sizes q) :=
  ruls_ok (x := ownRls l t.sizes 0 q) ⟨h.len, h.rules, h.m0, h.m1⟩
/-- What Conflict answers for a passage that is there. -/
theorem confl_at {l : List Aut} {t : Trp} {p : Int} (h : findE l t p = 0) : ∃ q, At l t p q ∧ conflR l t p = conflS (ownRls l t.sizes (firstN l t p.toNat) q) := by
  obtain ⟨q, hat, hd⟩ := At.of h
  refine ⟨q, hat, ?_⟩
  have b0 : (findE l t p == 0) = true := by simpa using h
  simp only [conflR, b0, cond_true, hd]
theorem contraS_nil {k : Int} {ts : List ByteArray} : contraS [] k ts = false := by
  unfold contraS
  cases k == 1 with
  | true => rfl
  | false =>
    cases k == 2 with
    | true => simp only [cond_true, cond_false]; exact emptyH_nil 1440 (by omega)
    | false =>
      cases k == 3 with
      | true => rfl
      | false =>
        cases k == 4 with
        | true => simp only [cond_true, cond_false]; exact emptyN_nil 365 (by omega)
        | false => rfl
theorem s23o {s : Sl Aut} {t : Trp} {p : Int} {q : Pas} (hat : At s.l t p q) {own : List Rul} {n0 : Nat} (ho : ownR s.l t.sizes q = own) (hn : firstN s.l t p.toNat = n0) (h : K (rv (.tup [Sl.enc 1 encI ⟨0, numsR n0 own.length⟩, Sl.enc 11 Rul.enc ⟨0, own⟩])) none fr = some r) : (CC (n+4)).fn 23 [rv (s.enc 4 Aut.enc), gv t.enc, iv p] fr K = some r := by
  refine s23 hat.hb ?_
  rw [hat.own, ho, hn]
  exact h
theorem s25k {s : Sl Aut} {t : Trp} {p : Int} (he : findE s.l t p = 0) {kind : Int} {C : Sl Int} (hc : conflR s.l t p = (kind, C)) (h : K (rv (.tup [.int .i64 kind, C.enc 1 encI, .int .i64 0])) none fr = some r) : (CC (n+19)).fn 25 [rv (s.enc 4 Aut.enc), gv t.enc, iv p] fr K = some r := by
  refine s25 ?_
  rw [hc, he]
  exact h
set_option maxHeartbeats 4000000 in
theorem s5 {s : Sl Aut} {t : Trp} {p : Int} (h : K (bv true) none fr = some r) : (CC (n+21)).fn 5 [rv (s.enc 4 Aut.enc), gv t.enc, iv p] fr K = some r := by
  refine cc q5_ok rfl ?_
  by_cases he : findE s.l t p = 0
  · obtain ⟨q, hat, hcf⟩ := confl_at he
    have b0 : (findE s.l t p != 0) = false := by simpa using he
    have c4 : (!(beginS s.l t == 0)) = false := by rw [hat.hb]; rfl
    have rok := ruls_at hat
    have e1 : (ofS s.l t p).1 = numsR (firstN s.l t p.toNat) (ownR s.l t.sizes q).length := by rw [hat.own]
    have e2 : (ofS s.l t p).2 = ownR s.l t.sizes q := by rw [hat.own]
    by_cases hk : kindS (ownR s.l t.sizes q) = 0
    · have hcf' : conflR s.l t p = (0, ⟨0, []⟩) := by
        rw [hcf]
        unfold conflS
        rw [show (kindS (ownRls s.l t.sizes (firstN s.l t p.toNat) q).list.l == 0) = true from (by show (kindS (ownR s.l t.sizes q) == 0) = true; simpa using hk)]
        rfl
      have k0 : ((conflR s.l t p).1 == 0) = true := by rw [hcf']; rfl
      have k1 : (((conflR s.l t p).2.l.length : Int) == 0) = true := by rw [hcf']; rfl
      have hts := thingsS_len rok
      have z1 := kindS_zero hk (j := 1) (by omega) (by omega)
      have z2 := kindS_zero hk (j := 2) (by omega) (by omega)
      have z3 := kindS_zero hk (j := 3) (by omega) (by omega)
      have z4 := kindS_zero hk (j := 4) (by omega) (by omega)
      have H1 : ∀ name ∈ thingsS (ofS s.l t p).2, ∃ n : Nat, n ≤ 1000 ∧ okN (ofS s.l t p).2 name n = true := by
        rw [e2]
        intro name hn
        obtain ⟨i, hi⟩ := List.getElem?_of_mem hn
        have hil : i < (thingsS (ownR s.l t.sizes q)).length := (List.getElem?_eq_some_iff.1 hi).1
        have z := kindS_zero hk (j := 5 + i) (by omega) (by omega)
        have n1 : ((5 + (i : Int)) == 1) = false := by simp; omega
        have n2 : ((5 + (i : Int)) == 2) = false := by simp; omega
        have n3 : ((5 + (i : Int)) == 3) = false := by simp; omega
        have n4 : ((5 + (i : Int)) == 4) = false := by simp; omega
        unfold contraS at z
        rw [n1, n2, n3, n4] at z
        simp only [cond_false, show (5 + (i : Int) - 5).toNat = i by omega] at z
        rw [List.getD_eq_getElem?_getD, hi] at z
        exact okN_of z
      have H2 : ∃ m : Nat, m < 1440 ∧ ((ofS s.l t p).2.all fun x => liesS m x.h0 x.h1) = true := by
        rw [e2]
        obtain ⟨m, hm, hq⟩ := List.all_eq_false.1 (show (List.range 1440).all (emptyH (ownR s.l t.sizes q)) = false from z2)
        refine ⟨m, by simpa using hm, ?_⟩
        have := not_emptyH (ownR s.l t.sizes q) m
        rw [show emptyH (ownR s.l t.sizes q) m = false by simpa using hq] at this
        exact this
      have H3 : ∀ m : Int, 0 ≤ m → m < 1440 → ((ofS s.l t p).2.all fun x => liesS m x.h0 x.h1) = true → ∃ d : Nat, d < 2555 ∧ allS (ofS s.l t p).2 (1440 * d + m) = true := by
        rw [e2]
        exact fun m m0 m1 hl => days_of rok z1 z3 z4 m0 m1 hl
      conv => lhs; whnf
      repeat' ((first | refine eIf_t ?_ | refine eIf_f ?_ | refine eGet_i rfl ?_ | refine eReq_i rfl ?_ | refine slLen_e ?_ | refine s12 (fun b => ?_) | refine s13 ?_ | refine s25 ?_ | refine eIf_cf b0 ?_ | refine s22 ?_ | refine eIf_cf c4 ?_ | refine s23 hat.hb ?_ | refine s26 (s := ⟨0, (ofS s.l t p).2⟩) (by rw [e2]; exact rok.len) (by rw [e2]; exact rok.c) ?_ | refine eIf_ct k0 ?_ | refine eIf_ct k1 ?_ | refine s27 (s := ⟨0, (ofS s.l t p).2⟩) (things := ⟨0, thingsS (ofS s.l t p).2⟩) (by rw [e2]; exact rok) (by rw [e2]; exact hts) (by rw [e2]; exact rok.t) H1 H2 H3 ?_ | refine eIf_i (fun _ => ?_) (fun _ => ?_)) <;> (try (conv => lhs; whnf)))
      all_goals exact h
    · obtain ⟨own, ho⟩ : ∃ own, ownR s.l t.sizes q = own := ⟨_, rfl⟩
      obtain ⟨n0, hn0⟩ : ∃ n0, firstN s.l t p.toNat = n0 := ⟨_, rfl⟩
      rw [ho] at hk rok
      obtain ⟨kind, hkd⟩ : ∃ kind, kindS own = kind := ⟨_, rfl⟩
      obtain ⟨k1, k2, k3⟩ := kindS_range hk
      have hts := thingsS_len rok
      rw [hkd] at k1 k2 k3 hk
      obtain ⟨D, hD⟩ : ∃ D, dropF kind (thingsS own) own.length (own, numsR n0 own.length) = D := ⟨_, rfl⟩
      obtain ⟨d1, d2, d3⟩ := dropF_ok rok (ns := numsR n0 own.length) own.length (own, numsR n0 own.length) (some_all _ _ (numsR_len _ _)) (Nat.le_refl _) k3 (fun j h1 h2 => by
        have h2' : j < own.length := h2
        omega)
      rw [hD] at d1 d2 d3
      have hcf' : conflR s.l t p = (kind, ⟨2, D.2⟩) := by
        rw [hcf]
        unfold conflS
        have hkf : (kindS (ownRls s.l t.sizes (firstN s.l t p.toNat) q).list.l == 0) = false := by
          show (kindS (ownR s.l t.sizes q) == 0) = false
          rw [ho, hkd]; simpa using hk
        rw [hkf, cond_false]
        show (kindS (ownR s.l t.sizes q), (⟨2, (dropF (kindS (ownR s.l t.sizes q)) (thingsS (ownR s.l t.sizes q)) (ownR s.l t.sizes q).length (ownR s.l t.sizes q, numsR (firstN s.l t p.toNat) (ownR s.l t.sizes q).length)).2⟩ : Sl Int)) = _
        rw [ho, hn0, hkd, hD]
      clear hD hcf
      obtain ⟨S, C⟩ := D
      simp only at hcf' d1 d2 d3
      obtain ⟨ix, x1, x2, x3⟩ := d1.ex
      simp only at x2 x3
      have l1 : S.length = ix.length := by have := congrArg List.length x2; simpa using this
      have l2 : C.length = ix.length := by have := congrArg List.length x3; simpa using this
      have sok := rok.sub d1.rl
      have hSl : S.length < 100 := sok.len
      have hS0 : 0 < S.length := by
        rcases Nat.eq_zero_or_pos S.length with h0 | h0
        · rw [List.eq_nil_of_length_eq_zero h0, contraS_nil] at d2; cases d2
        · exact h0
      have hix : ∀ i j : Nat, ix[i]? = some j → S[i]? = own[j]? ∧ C[i]? = (numsR n0 own.length)[j]? ∧ j < own.length := fun i j hij => by
        have a1 := congrArg (·[i]?) x2
        have a2 := congrArg (·[i]?) x3
        simp only [List.getElem?_map, hij, Option.map_some] at a1 a2
        obtain ⟨y, hy⟩ : ∃ y, S[i]? = some y := ⟨_, List.getElem?_eq_getElem (by rw [l1]; exact (List.getElem?_eq_some_iff.1 hij).1)⟩
        obtain ⟨c, hc⟩ : ∃ c, C[i]? = some c := ⟨_, List.getElem?_eq_getElem (by rw [l2]; exact (List.getElem?_eq_some_iff.1 hij).1)⟩
        rw [hy] at a1
        rw [hc] at a2
        simp only [Option.map_some, Option.some.injEq] at a1 a2
        exact ⟨by rw [hy, a1], by rw [hc, a2], (List.getElem?_eq_some_iff.1 a1.symm).1⟩
      have f1 : (kind == 0) = false := by simpa using hk
      have f2 : decide (kind < 0) = false := decide_eq_false (by omega)
      have hw5 : IntKind.i64.wrap (5 + ((thingsS own).length : Int)) = 5 + (thingsS own).length := wrap_id (by omega) (by omega)
      have f3 : decide (kind ≥ IntKind.i64.wrap (5 + ((thingsS own).length : Int))) = false := decide_eq_false (by rw [hw5]; omega)
      have f4 : ((C.length : Int) == 0) = false := by rw [beq_eq_false_iff_ne]; omega
      clear k3
      conv => lhs; whnf
      repeat' ((first | refine eIf_t ?_ | refine eIf_f ?_ | refine eGet_i rfl ?_ | refine eReq_i rfl ?_ | refine slLen_e ?_ | refine s12 (fun b => ?_) | refine s13 ?_ | refine s25k he hcf' ?_ | refine s22 ?_ | refine eIf_cf c4 ?_ | refine s23o hat ho hn0 ?_ | refine s26 (s := ⟨0, own⟩) rok.len rok.c ?_ | refine eIf_cf f1 ?_ | refine eIf_cf f2 ?_ | refine eIf_cf f3 ?_ | refine eIf_cf f4 ?_ | refine eIf_i (fun _ => ?_) (fun _ => ?_)) <;> (try (conv => lhs; whnf)))
      · exact h
      refine eLoop_i (R := R) (σ := Nat × Nat) (fun z => [(7, iv kind), (8, rv (Sl.enc 1 encI ⟨2, C⟩)), (10, rv (Sl.enc 1 encI ⟨0, numsR n0 own.length⟩)), (11, rv (Sl.enc 11 Rul.enc ⟨0, own⟩)), (12, rv (Sl.enc 1 encS ⟨0, thingsS own⟩)), (13, .s (.tsl 11 ((S.take z.1).map Rul.enc) 0 0)), (14, iv z.2), (15, iv z.1)]) (fun z => [.tok 11 (S.take z.1).length] :: fr)
        (fun z => z.1 ≤ ix.length ∧ z.2 ≤ own.length ∧ ∀ j, ix[z.1]? = some j → z.2 ≤ j) (fun z => ix.length - z.1) (fun z L hC hL => ?_) _ (0, 0) ⟨Nat.zero_le _, Nat.zero_le _, fun j _ => Nat.zero_le _⟩ (by show ix.length - 0 < _; omega)
      obtain ⟨i, at_⟩ := z
      obtain ⟨hi, ha, hnext⟩ := hC
      simp only at hi ha hnext hL
      rcases Nat.lt_or_ge i ix.length with hil | hig
      · obtain ⟨j, hij⟩ : ∃ j, ix[i]? = some j := ⟨_, List.getElem?_eq_getElem hil⟩
        obtain ⟨g1, g2, g3⟩ := hix i j hij
        have hj0 := hnext j hij
        obtain ⟨y, hy⟩ : ∃ y, own[j]? = some y := ⟨_, List.getElem?_eq_getElem g3⟩
        have hCi : C[i]? = some ((n0 + j : Nat) : Int) := by rw [g2, numsR_get g3]
        have hSi : S[i]? = some y := by rw [g1, hy]
        conv => lhs; whnf
        repeat' ((first | refine eIf_t ?_ | refine eIf_f ?_ | refine eGet_i rfl ?_ | refine eReq_i rfl ?_ | refine slLen_e ?_ | refine eIf_ct (lt_t (show i < C.length by omega)) ?_ | refine eIf_i (fun _ => ?_) (fun _ => ?_)) <;> (try (conv => lhs; whnf)))
        refine eLoop_i (R := R) (σ := Nat) (fun a => [(7, iv kind), (8, rv (Sl.enc 1 encI ⟨2, C⟩)), (10, rv (Sl.enc 1 encI ⟨0, numsR n0 own.length⟩)), (11, rv (Sl.enc 11 Rul.enc ⟨0, own⟩)), (12, rv (Sl.enc 1 encS ⟨0, thingsS own⟩)), (13, .s (.tsl 11 ((S.take i).map Rul.enc) 0 0)), (14, iv a), (15, iv i)]) (fun _ => [.tok 11 (S.take i).length] :: fr) (fun a => a ≤ j) (fun a => j - a) (fun a L' hC' hL' => ?_) _ at_ hj0 (by show j - at_ < _; have := rok.len; omega)
        have hal : a < own.length := by omega
        have hown := rok.len
        rcases Nat.lt_or_ge a j with haj | haj
        · conv => lhs; whnf
          repeat' ((first | refine eIf_t ?_ | refine eIf_f ?_ | refine eGet_i rfl ?_ | refine eReq_i rfl ?_ | refine slLen_e ?_ | refine eIf_ct (show decide ((a : Int) < ((numsR n0 own.length).length : Int)) = true from decide_eq_true (by rw [numsR_len]; omega)) ?_ | refine slIdx_e rfl (Int.natCast_nonneg _) (numsR_get hal) ?_ | refine slIdx_e rfl (Int.natCast_nonneg _) hCi ?_ | refine eIf_ct (show (((n0 + a : Nat) : Int) != ((n0 + j : Nat) : Int)) = true by rw [bne_iff_ne]; omega) ?_ | refine eIf_i (fun _ => ?_) (fun _ => ?_)) <;> (try (conv => lhs; whnf)))
          exact l_eq (hL' (a + 1) (by omega) (by omega)) (by rw [wrap_up (by omega)]) rfl
        · have : a = j := by omega
          subst this
          have hlen : (S.take i).length = i := by rw [List.length_take]; omega
          conv => lhs; whnf
          repeat' ((first | refine eIf_t ?_ | refine eIf_f ?_ | refine eGet_i rfl ?_ | refine eReq_i rfl ?_ | refine slLen_e ?_ | refine eIf_ct (show decide ((a : Int) < ((numsR n0 own.length).length : Int)) = true from decide_eq_true (by rw [numsR_len]; omega)) ?_ | refine slIdx_e rfl (Int.natCast_nonneg _) (numsR_get hal) ?_ | refine slIdx_e rfl (Int.natCast_nonneg _) hCi ?_ | refine eIf_cf (show (((n0 + a : Nat) : Int) != ((n0 + a : Nat) : Int)) = false by simp) ?_ | refine eIf_cf (show ((a : Int) == ((numsR n0 own.length).length : Int)) = false by rw [numsR_len, beq_eq_false_iff_ne]; omega) ?_ | refine slIdx_e rfl (Int.natCast_nonneg _) hy ?_ | refine slRows_v ?_ | refine eNil_c rfl ?_ | refine eReq_i (by simp [Nat.ble_eq]; omega) ?_ | refine eIf_i (fun _ => ?_) (fun _ => ?_)) <;> (try (conv => lhs; whnf)))
          refine l_eq (hL (i + 1, a + 1) ⟨hil, by show a + 1 ≤ own.length; omega, fun j' hj' => ?_⟩ (by show ix.length - (i + 1) < _; omega)) (by rw [wrap_up (by omega), wrap_up (by omega), take_succ hSi]; simp) (by rw [take_succ hSi]; simp)
          have q1 := List.pairwise_iff_getElem.1 x1 i (i + 1) hil (List.getElem?_eq_some_iff.1 hj').1 (by omega)
          rw [(List.getElem?_eq_some_iff.1 hij).2, (List.getElem?_eq_some_iff.1 hj').2] at q1
          exact q1
      · have : i = ix.length := by omega
        subst this
        rw [List.take_of_length_le (by omega)]
        have d2' : (!(contraS S kind (thingsS own))) = false := by rw [d2]; rfl
        conv => lhs; whnf
        repeat' ((first | refine eIf_t ?_ | refine eIf_f ?_ | refine eGet_i rfl ?_ | refine eReq_i rfl ?_ | refine slLen_e ?_ | refine eIf_cf (show decide ((ix.length : Int) < (C.length : Int)) = false from decide_eq_false (by omega)) ?_ | refine s28t (things := ⟨0, thingsS own⟩) sok hts k1 k2 ?_ | refine eIf_cf d2' ?_ | refine eIf_i (fun _ => ?_) (fun _ => ?_)) <;> (try (conv => lhs; whnf)))
        have hSne : S.map Rul.enc ≠ [] := by simp; intro e; rw [e] at hS0; simp at hS0
        refine eLoop_l S (fun i => [(7, iv kind), (12, rv (Sl.enc 1 encS ⟨0, thingsS own⟩)), (13, .s (.tsl 11 (S.map Rul.enc) 0 0)), (16, iv i)]) (fun _ => [.tok 11 S.length] :: fr) (fun _ => True) (fun i y L hy hi _ hL => ?_) (fun L _ => ?_) _ (by omega) trivial
        · have d3' : (contraS (S.eraseIdx i) kind (thingsS own)) = false := d3 i hi
          have hwi : IntKind.wrap .i64 ((i : Int) + 1) = ((i + 1 : Nat) : Int) := wrap_up (by omega)
          have hlt : decide ((i : Int) < ((S.map Rul.enc).length : Int)) = true := by rw [List.length_map]; exact lt_t hi
          have hwz : (IntKind.wrap .i64 ((i : Int) + 1)).toNat = i + 1 := by rw [hwi]; omega
          have hwn : 0 ≤ IntKind.wrap .i64 ((i : Int) + 1) ∧ IntKind.wrap .i64 ((i : Int) + 1) ≤ (S.length : Int) := by rw [hwi]; omega
          have sok2 : RulsOK (S.eraseIdx i) := sok.erase i
          have hnext : L [(7, iv kind), (12, rv (Sl.enc 1 encS ⟨0, thingsS own⟩)), (13, .s (.tsl 11 (S.map Rul.enc) 0 0)), (16, iv (IntKind.wrap .i64 ((i : Int) + 1)))] ([.tok 11 S.length] :: fr) = some r := by
            rw [hwi]; exact hL trivial
          by_cases h0 : i = 0
          · by_cases h1 : S.length = 1
            · have hE : S.eraseIdx i = [] := List.eq_nil_of_length_eq_zero (by rw [List.length_eraseIdx, if_pos hi]; omega)
              conv => lhs; whnf
              repeat' ((first | refine eIf_t ?_ | refine eIf_f ?_ | refine eGet_i rfl ?_ | refine eReq_i rfl ?_ | refine slLen_e ?_ | refine eIf_ct hlt ?_ | refine eReq_i (by simp; omega) ?_ | refine eNil_ne hSne ?_ | refine slRows_v ?_ | refine eNil_n (by apply List.eq_nil_of_length_eq_zero; simp only [List.length_drop, List.length_take, List.length_map]; omega) ?_ | refine s28n (l := S.eraseIdx i) hE sok2 (things := ⟨0, thingsS own⟩) hts k1 k2 ?_ | refine eIf_cf d3' ?_ | refine eIf_i (fun _ => ?_) (fun _ => ?_)) <;> (try (conv => lhs; whnf)))
              exact hnext
            · conv => lhs; whnf
              repeat' ((first | refine eIf_t ?_ | refine eIf_f ?_ | refine eGet_i rfl ?_ | refine eReq_i rfl ?_ | refine slLen_e ?_ | refine eIf_ct hlt ?_ | refine eReq_i (by simp; omega) ?_ | refine eNil_ne hSne ?_ | refine slRows_v ?_ | refine eNil_n (by apply List.eq_nil_of_length_eq_zero; simp only [List.length_drop, List.length_take, List.length_map]; omega) ?_ | refine eNil_ne (by intro e; have e2 := congrArg List.length e; simp only [List.length_drop, List.length_take, List.length_map, List.length_nil] at e2; omega) ?_ | refine eReq_i (by simp [Nat.ble_eq]; omega) ?_ | refine s28r (l := S.eraseIdx i) (by rw [List.eraseIdx_eq_take_drop_succ, hwz]; simp [h0, List.take_of_length_le]) sok2 (things := ⟨0, thingsS own⟩) hts k1 k2 ?_ | refine eIf_cf d3' ?_ | refine eIf_i (fun _ => ?_) (fun _ => ?_)) <;> (try (conv => lhs; whnf)))
              all_goals exact hnext
          · by_cases h1 : i + 1 = S.length
            · conv => lhs; whnf
              repeat' ((first | refine eIf_t ?_ | refine eIf_f ?_ | refine eGet_i rfl ?_ | refine eReq_i rfl ?_ | refine slLen_e ?_ | refine eIf_ct hlt ?_ | refine eReq_i (by simp; omega) ?_ | refine eNil_ne hSne ?_ | refine slRows_v ?_ | refine eNil_n (by apply List.eq_nil_of_length_eq_zero; simp only [List.length_drop, List.length_take, List.length_map]; omega) ?_ | refine eNil_ne (by intro e; have e2 := congrArg List.length e; simp only [List.length_drop, List.length_take, List.length_map, List.length_nil] at e2; omega) ?_ | refine eReq_i (by simp [Nat.ble_eq]; omega) ?_ | refine s28r (l := S.eraseIdx i) (by rw [List.eraseIdx_eq_take_drop_succ]; simp [h1, List.take_of_length_le]) sok2 (things := ⟨0, thingsS own⟩) hts k1 k2 ?_ | refine eIf_cf d3' ?_ | refine eIf_i (fun _ => ?_) (fun _ => ?_)) <;> (try (conv => lhs; whnf)))
              all_goals exact hnext
            · conv => lhs; whnf
              repeat' ((first | refine eIf_t ?_ | refine eIf_f ?_ | refine eGet_i rfl ?_ | refine eReq_i rfl ?_ | refine slLen_e ?_ | refine eIf_ct hlt ?_ | refine eReq_i (by simp; omega) ?_ | refine eNil_ne hSne ?_ | refine slRows_v ?_ | refine eNil_n (by apply List.eq_nil_of_length_eq_zero; simp only [List.length_drop, List.length_take, List.length_map]; omega) ?_ | refine eNil_ne (by intro e; have e2 := congrArg List.length e; simp only [List.length_drop, List.length_take, List.length_map, List.length_nil] at e2; omega) ?_ | refine eReq_i (by simp [Nat.ble_eq]; omega) ?_ | refine s28r (l := S.eraseIdx i) (by rw [List.eraseIdx_eq_take_drop_succ, hwz]; simp [List.take_of_length_le]) sok2 (things := ⟨0, thingsS own⟩) hts k1 k2 ?_ | refine eIf_cf d3' ?_ | refine eIf_i (fun _ => ?_) (fun _ => ?_)) <;> (try (conv => lhs; whnf)))
              all_goals exact hnext
        · conv => lhs; whnf
          repeat' ((first | refine eIf_t ?_ | refine eIf_f ?_ | refine eGet_i rfl ?_ | refine eReq_i rfl ?_ | refine slLen_e ?_ | refine eIf_cf (show decide ((S.length : Int) < ((S.map Rul.enc).length : Int)) = false by rw [List.length_map]; exact lt_f) ?_ | refine s13 ?_ | refine eIf_i (fun _ => ?_) (fun _ => ?_)) <;> (try (conv => lhs; whnf)))
          exact h
  · have b0 : (findE s.l t p != 0) = true := by simpa using he
    have e0 : (findE s.l t p == 0) = false := by simpa using he
    have hcf' : conflR s.l t p = (0, ⟨0, []⟩) := by simp only [conflR, e0, cond_false]
    have k0 : ((conflR s.l t p).1 == 0) = true := by rw [hcf']; rfl
    have k1 : (((conflR s.l t p).2.l.length : Int) == 0) = true := by rw [hcf']; rfl
    conv => lhs; whnf
    repeat' ((first | refine eIf_t ?_ | refine eIf_f ?_ | refine eGet_i rfl ?_ | refine eReq_i rfl ?_ | refine slLen_e ?_ | refine s12 (fun b => ?_) | refine s13 ?_ | refine s25 ?_ | refine eIf_ct b0 ?_ | refine eIf_ct k0 ?_ | refine eIf_ct k1 ?_ | refine eIf_i (fun _ => ?_) (fun _ => ?_)) <;> (try (conv => lhs; whnf)))
    all_goals exact h
end Go.PM.Try

namespace Go.PM.Try
open Go.Proofs
attribute [local irreducible] eIf eReq eGet eNil slLen slRows slIdx slSub slZero slView eFind eLoopN CC Sl.enc
variable {R : Type} [Stops R] [CCW R] {n : Nat} {fr : Frames} {K : PV → Option LB → Frames → Option R} {r : R}
set_option maxRecDepth 8000
set_option linter.unusedSectionVars false

theorem s65c {l : List Rul} {b0 : LB} {rest : List LB} {R0 : List (List RV)} {up : Frames} {i : Nat} (hi : i < l.length) (hl : R0.length < 1000000) (hR : R0.take l.length = l.map Rul.enc) (h : K (.s (.sl 0 1 0 (l.length - 1))) none ((b0 :: .arr 11 (delRows R0 l.length i zRow) :: rest) :: up) = some r) : (CC (n+1)).fn 65 [.s (.sl 1 1 0 l.length), iv i, iv ((i : Int) + 1)] ((b0 :: .arr 11 R0 :: rest) :: up) K = some r := by
  refine cc q65_ok rfl ?_
  have hlen : l.length ≤ R0.length := by
    have := congrArg List.length hR
    simp at this; omega
  have hle : Int.toNat (i : Int) = i := by omega
  have hle' : Int.toNat ((i : Int) + 1) = i + 1 := by omega
  have hz : ((i : Int) == 0 && (i : Int) + 1 == 0 && ((l.length : Nat) : Int) == 0) = false := by simp; omega
  conv => lhs; whnf
  repeat' ((first | refine eIf_t ?_ | refine eIf_f ?_ | refine eGet_i rfl ?_ | refine eReq_i rfl ?_ | refine slLen_e ?_ | refine eIf_i (fun _ => ?_) (fun _ => ?_)) <;> (try (conv => lhs; whnf)))
  rw [hz]
  conv => lhs; whnf
  repeat' ((first | refine eIf_t ?_ | refine eIf_f ?_ | refine eGet_i rfl ?_ | refine eReq_i rfl ?_ | refine slLen_e ?_ | refine eReq_i (by simp; omega) ?_ | refine eIf_cf (show ((i : Int) == (i : Int) + 1) = false by simp; omega) ?_ | refine eIf_i (fun _ => ?_) (fun _ => ?_)) <;> (try (conv => lhs; whnf)))
  by_cases hlt : i + 1 < l.length
  · refine eNil_ne (by
      intro e
      have := congrArg List.length e
      simp at this
      omega) ?_
    conv => lhs; whnf
    repeat' ((first | refine eIf_t ?_ | refine eIf_f ?_ | refine eGet_i rfl ?_ | refine eReq_i rfl ?_ | refine slLen_e ?_ | refine eReq_i (by simp [Nat.ble_eq]; omega) ?_ | refine eIf_i (fun _ => ?_) (fun _ => ?_)) <;> (try (conv => lhs; whnf)))
    refine eReq_i (by rw [splice_len _ _ _ (by simp; omega)]; simp; omega) ?_
    conv => lhs; whnf
    repeat' ((first | refine eIf_t ?_ | refine eIf_f ?_ | refine eGet_i rfl ?_ | refine eReq_i rfl ?_ | refine slLen_e ?_ | refine eIf_i (fun _ => ?_) (fun _ => ?_)) <;> (try (conv => lhs; whnf)))
    refine eReq_i (by rw [splice_len _ _ _ (by simp; omega)]; simp [Nat.ble_eq]; omega) ?_
    conv => lhs; whnf
    repeat' ((first | refine eIf_t ?_ | refine eIf_f ?_ | refine eGet_i rfl ?_ | refine eReq_i rfl ?_ | refine slLen_e ?_ | refine eIf_i (fun _ => ?_) (fun _ => ?_)) <;> (try (conv => lhs; whnf)))
    have e1 : (List.take ((l.length : Int).toNat - ((i : Int) + 1).toNat) (List.drop (0 + ((i : Int) + 1).toNat) R0)).length = l.length - (i + 1) := by simp; omega
    rw [e1]
    refine kfr h (by congr 2; simp; omega) ?_
    show _ :: up = _
    have e2 : Int.toNat 0 = 0 := rfl
    have e3 : 0 + (i : Int).toNat - 0 = i := by omega
    simp only [e2, hle, hle', Int.toNat_natCast, Nat.zero_add, Nat.sub_zero, Nat.add_zero]
    rw [show i + (l.length - (i + 1)) = l.length - 1 by omega, show l.length - (l.length - 1) = 1 by omega]
    rfl
  · refine eNil_n (by
      apply List.eq_nil_of_length_eq_zero
      simp
      omega) ?_
    conv => lhs; whnf
    repeat' ((first | refine eIf_t ?_ | refine eIf_f ?_ | refine eGet_i rfl ?_ | refine eReq_i rfl ?_ | refine slLen_e ?_ | refine eReq_i (by simp [Nat.ble_eq]; omega) ?_ | refine eIf_i (fun _ => ?_) (fun _ => ?_)) <;> (try (conv => lhs; whnf)))
    refine kfr h (by congr 2; simp; omega) ?_
    show _ :: up = _
    have e2 : Int.toNat 0 = 0 := rfl
    have e4 : (List.drop (i + 1) R0).take (l.length - (i + 1)) = [] := by rw [show l.length - (i + 1) = 0 by omega]; simp
    simp only [e2, hle, hle', Int.toNat_natCast, Nat.zero_add, Nat.sub_zero, Nat.add_zero, delRows, e4]
    have e5 : splice R0 i [] = R0 := by simp [splice]
    rw [e5, show l.length - i = 1 by omega, show l.length - 1 = i by omega]
    rfl
theorem s65cw {l : List Rul} {b0 : LB} {rest : List LB} {R0 : List (List RV)} {up : Frames} {i len : Nat} {x : Int} (hx : x = (i : Int) + 1) (hle : len = l.length) (hi : i < l.length) (hl : R0.length < 1000000) (hR : R0.take l.length = l.map Rul.enc) (h : K (.s (.sl 0 1 0 (l.length - 1))) none ((b0 :: .arr 11 (delRows R0 l.length i zRow) :: rest) :: up) = some r) : (CC (n+1)).fn 65 [.s (.sl 1 1 0 len), iv i, iv x] ((b0 :: .arr 11 R0 :: rest) :: up) K = some r := by
  subst hx; subst hle; exact s65c hi hl hR h
/-- The conditions without which the others do not contradict each other. -/
def curesF (l : List Rul) : List Int → Nat → List Int
  | [], _ => []
  | n :: ns, i => bif kindS (l.eraseIdx i) == 0 then n :: curesF l ns (i + 1) else curesF l ns (i + 1)
def curesS (x : Rls) : List Int := curesF x.list.l x.numbers.l 0
def curesE (l : List Aut) (t : Trp) (p : Int) : Int := bif findE l t p == 0 then (match (deskS l t).2[p.toNat]? with
  | some x => bif kindS x.list.l == 0 then 5 else 0
  | none => 0) else findE l t p
def curesV (l : List Aut) (t : Trp) (p : Int) : List Int := bif findE l t p == 0 then (match (deskS l t).2[p.toNat]? with
  | some x => bif kindS x.list.l == 0 then [] else curesS x
  | none => []) else []
theorem s35 {s : Sl Rul} (ok : RulsOK s.l) (h : K (iv (kindS s.l)) none fr = some r) : (CC (n+3)).fn 35 [rv (s.enc 11 Rul.enc)] fr K = some r := by
  have ht := thingsS_len ok
  refine cc q35_ok rfl ?_
  conv => lhs; whnf
  repeat' ((first | refine eIf_t ?_ | refine eIf_f ?_ | refine eGet_i rfl ?_ | refine eReq_i rfl ?_ | refine slLen_e ?_ | refine s26 ok.len ok.c ?_ | refine eIf_i (fun _ => ?_) (fun _ => ?_)) <;> (try (conv => lhs; whnf)))
  refine eLoop_i (R := R) (σ := Int) (fun k => [(0, rv (s.enc 11 Rul.enc)), (3, rv (Sl.enc 1 encS ⟨0, thingsS s.l⟩)), (4, iv k)]) (fun _ => [] :: fr) (fun k => 1 ≤ k ∧ k ≤ 5 + (thingsS s.l).length ∧ K (iv (kindF s.l (thingsS s.l) (5 + (thingsS s.l).length - k).toNat k)) none fr = some r) (fun k => (5 + (thingsS s.l).length - k).toNat) (fun k L hC hL => ?_) _ 1 ⟨by omega, by omega, by rw [show (5 + ((thingsS s.l).length : Int) - 1).toNat = 4 + (thingsS s.l).length by omega]; exact h⟩ (by show (5 + ((thingsS s.l).length : Int) - 1).toNat < _; omega)
  obtain ⟨h1, h2, hC⟩ := hC
  have hw : IntKind.wrap .i64 (5 + ((thingsS s.l).length : Int)) = 5 + (thingsS s.l).length := wrap_id (by omega) (by omega)
  by_cases hk : k < 5 + (thingsS s.l).length
  · rw [show (5 + ((thingsS s.l).length : Int) - k).toNat = (5 + ((thingsS s.l).length : Int) - (k + 1)).toNat + 1 by omega] at hC
    simp only [kindF] at hC
    conv => lhs; whnf
    repeat' ((first | refine eIf_t ?_ | refine eIf_f ?_ | refine eGet_i rfl ?_ | refine eReq_i rfl ?_ | refine slLen_e ?_ | refine eIf_ct (show decide (k < IntKind.wrap .i64 (5 + ((thingsS s.l).length : Int))) = true by rw [hw]; exact decide_eq_true hk) ?_ | refine s28 ok (things := ⟨0, thingsS s.l⟩) ht h1 hk ?_ | refine eIf_i (fun _ => ?_) (fun _ => ?_)) <;> (try (conv => lhs; whnf)))
    · rename_i g
      rw [show contraS s.l k (thingsS s.l) = true from g, cond_true] at hC
      exact hC
    · rename_i g
      rw [show contraS s.l k (thingsS s.l) = false from g, cond_false] at hC
      exact l_eq (hL (k + 1) ⟨by omega, by omega, hC⟩ (by omega)) (by rw [wrap_id (by omega) (by omega)]) rfl
  · rw [show (5 + ((thingsS s.l).length : Int) - k).toNat = 0 by omega] at hC
    conv => lhs; whnf
    repeat' ((first | refine eIf_t ?_ | refine eIf_f ?_ | refine eGet_i rfl ?_ | refine eReq_i rfl ?_ | refine slLen_e ?_ | refine eIf_cf (show decide (k < IntKind.wrap .i64 (5 + ((thingsS s.l).length : Int))) = false by rw [hw]; exact decide_eq_false hk) ?_ | refine eIf_i (fun _ => ?_) (fun _ => ?_)) <;> (try (conv => lhs; whnf)))
    exact hC
theorem s32 {s : Sl Aut} {t : Trp} {p : Int} (h : K (rv (.tup [Sl.enc 1 encI ⟨0, curesV s.l t p⟩, .int .i64 (curesE s.l t p)])) none fr = some r) : (CC (n+18)).fn 32 [rv (s.enc 4 Aut.enc), gv t.enc, iv p] fr K = some r := by
  refine cc q32_ok rfl ?_
  by_cases h0 : findE s.l t p = 0
  · have b0 : (findE s.l t p == 0) = true := by simpa using h0
    conv => lhs; whnf
    repeat' ((first | refine eIf_t ?_ | refine eIf_f ?_ | refine eGet_i rfl ?_ | refine eReq_i rfl ?_ | refine slLen_e ?_ | refine s56o h0 (fun x hx => ?_) | refine eIf_i (fun _ => ?_) (fun _ => ?_)) <;> (try (conv => lhs; whnf)))
    obtain ⟨hb, h1, h2⟩ := findE_ok h0
    obtain ⟨p', hp', hx'⟩ := deskS_get (beginS_ok hb).auth hx
    have ok : RlsOK x := by rw [hx']; exact ownRls_ok hb (List.mem_of_getElem? hp') (firstN s.l t p.toNat)
    have hnn : x.numbers.l.length = x.list.l.length := by rw [hx']; simp [ownRls, numsR]
    have e1 : curesV s.l t p = bif kindS x.list.l == 0 then [] else curesS x := by simp only [curesV, b0, cond_true, hx]
    have e2 : curesE s.l t p = bif kindS x.list.l == 0 then 5 else 0 := by simp only [curesE, b0, cond_true, hx]
    rw [e1, e2] at h
    clear hx' hp' hx b0 e1 e2
    have rok := ruls_ok ok
    have l24 := ok.len
    conv => lhs; whnf
    repeat' ((first | refine eIf_t ?_ | refine eIf_f ?_ | refine eGet_i rfl ?_ | refine eReq_i rfl ?_ | refine slLen_e ?_ | refine s60 rok ?_ | refine eIf_i (fun _ => ?_) (fun _ => ?_)) <;> (try (conv => lhs; whnf)))
    · rename_i g
      simp only [g, cond_true] at h
      rw [← nils_enc] at h
      exact h
    · rename_i g
      simp only [g, cond_false] at h
      have h' : K (rv (.tup [Sl.enc 1 encI ⟨0, [] ++ curesF x.list.l (x.numbers.l.drop 0) 0⟩, .int .i64 0])) none fr = some r := h
      clear h
      refine eLoop_i (R := R) (σ := Nat × List Int) (fun z => [(8, rv (.vptr x.enc 0)), (10, .s (.tsl 1 (z.2.map encI) 0 0)), (33, rv (x.numbers.enc 1 encI)), (34, iv x.numbers.l.length), (35, iv z.1)]) (fun z => [.tok 1 z.2.length] :: fr) (fun z => z.1 ≤ x.numbers.l.length ∧ z.2.length ≤ z.1 ∧ K (rv (.tup [Sl.enc 1 encI ⟨0, z.2 ++ curesF x.list.l (x.numbers.l.drop z.1) z.1⟩, .int .i64 0])) none fr = some r) (fun z => x.numbers.l.length - z.1) (fun z L hC hL => ?_) _ (0, []) ⟨Nat.zero_le _, Nat.zero_le _, h'⟩ (by show x.numbers.l.length - 0 < _; omega)
      obtain ⟨i, o⟩ := z
      obtain ⟨hi, hol, hC⟩ := hC
      simp only at hi hol hC hL
      rcases Nat.lt_or_ge i x.numbers.l.length with hil | hig
      · obtain ⟨m, hm⟩ : ∃ m, x.numbers.l[i]? = some m := ⟨_, List.getElem?_eq_getElem hil⟩
        have hil' : i < x.list.l.length := by omega
        have hne : x.list.l ≠ [] := fun e => by rw [e] at hil'; simp at hil'
        have hw : IntKind.i64.wrap ((i : Int) + 1) = (i : Int) + 1 := wrap_id (by omega) (by omega)
        rw [drop_succ hm] at hC
        simp only [curesF] at hC
        conv => lhs; whnf
        repeat' ((first | refine eIf_t ?_ | refine eIf_f ?_ | refine eGet_i rfl ?_ | refine eReq_i rfl ?_ | refine slLen_e ?_ | refine eIf_ct (lt_t hil) ?_ | refine slIdx_e rfl (Int.natCast_nonneg _) hm ?_ | refine s62 hne (by omega) ?_ | refine s65cw (l := x.list.l) hw rfl hil' (by simp; omega) (by rw [List.take_of_length_le (by simp)]) ?_ | refine slView_e (f := Rul.enc) (l := x.list.l.eraseIdx i) (by rw [List.drop_zero]; exact delRows_take (by rw [List.take_of_length_le (by simp)]) hil') ?_ | refine s60 (s := ⟨2, x.list.l.eraseIdx i⟩) (rok.erase i) ?_ | refine slRows_v ?_ | refine eNil_c rfl ?_ | refine eReq_i (by simp [Nat.ble_eq]; omega) ?_ | refine eIf_i (fun _ => ?_) (fun _ => ?_)) <;> (try (conv => lhs; whnf)))
        · rename_i g
          rw [show (kindS (x.list.l.eraseIdx i) == 0) = true from g, cond_true] at hC
          exact l_eq (hL (i + 1, o ++ [m]) ⟨hil, by simp; omega, by rw [List.append_assoc]; exact hC⟩ (by show x.numbers.l.length - (i + 1) < _; omega)) (by rw [wrap_up (by omega)]; simp) (by simp)
        · rename_i g
          rw [show (kindS (x.list.l.eraseIdx i) == 0) = false from g, cond_false] at hC
          exact l_eq (hL (i + 1, o) ⟨hil, by show o.length ≤ _; omega, hC⟩ (by show x.numbers.l.length - (i + 1) < _; omega)) (by rw [wrap_up (by omega)]) rfl
      · have : i = x.numbers.l.length := by omega
        subst this
        rw [List.drop_length] at hC
        simp only [curesF, List.append_nil] at hC
        conv => lhs; whnf
        repeat' ((first | refine eIf_t ?_ | refine eIf_f ?_ | refine eGet_i rfl ?_ | refine eReq_i rfl ?_ | refine slLen_e ?_ | refine eIf_cf lt_f ?_ | refine eIf_i (fun _ => ?_) (fun _ => ?_)) <;> (try (conv => lhs; whnf)))
        dsimp only
        rw [seal_enc]
        exact hC
  · have b0 : (findE s.l t p == 0) = false := by simpa using h0
    have b1 : (findE s.l t p != 0) = true := by simpa using h0
    conv => lhs; whnf
    repeat' ((first | refine eIf_t ?_ | refine eIf_f ?_ | refine eGet_i rfl ?_ | refine eReq_i rfl ?_ | refine slLen_e ?_ | refine s56e h0 ?_ | refine eIf_ct b1 ?_ | refine eIf_i (fun _ => ?_) (fun _ => ?_)) <;> (try (conv => lhs; whnf)))
    have e1 : curesV s.l t p = [] := by simp only [curesV, b0, cond_false]
    have e2 : curesE s.l t p = findE s.l t p := by simp only [curesE, b0, cond_false]
    rw [e1, e2, ← nils_enc] at h
    exact h
end Go.PM.Try

namespace Go.PM.Try
set_option linter.unusedSectionVars false

theorem eqB_eq {a b : ByteArray} : eqB a b = true ↔ a = b := eqB_iff a b
theorem mem_addT {x y : ByteArray} {o : List ByteArray} : y ∈ addT x o ↔ y = x ∨ y ∈ o := by
  unfold addT
  cases h : o.any (eqB x) with
  | false => rw [cond_false, List.mem_append, List.mem_singleton]; exact ⟨fun h => h.symm, fun h => h.symm⟩
  | true =>
    rw [cond_true]
    obtain ⟨z, hz, e⟩ := List.any_eq_true.1 h
    have := eqB_eq.1 e
    subst this
    exact ⟨Or.inr, fun h => h.elim (fun e => e ▸ hz) id⟩
theorem mem_thingsC {y : ByteArray} : ∀ {l : List Cnt} {o : List ByteArray}, y ∈ thingsC l o ↔ y ∈ o ∨ ∃ c ∈ l, c.thing = y
  | [], o => by simp [thingsC]
  | c :: l, o => by
    simp only [thingsC]
    rw [mem_thingsC, mem_addT]
    simp only [List.mem_cons, exists_eq_or_imp]
    constructor
    · rintro ((h | h) | h)
      · exact .inr (.inl h.symm)
      · exact .inl h
      · exact .inr (.inr h)
    · rintro (h | h | h)
      · exact .inl (.inr h)
      · exact .inl (.inl h.symm)
      · exact .inr h
theorem mem_thingsR {y : ByteArray} : ∀ {l : List Rul} {o : List ByteArray}, y ∈ thingsR l o ↔ y ∈ o ∨ ∃ x ∈ l, ∃ c ∈ x.counts.l, c.thing = y
  | [], o => by simp [thingsR]
  | x :: l, o => by
    simp only [thingsR]
    rw [mem_thingsR, mem_thingsC, or_assoc]
    simp only [List.mem_cons, exists_eq_or_imp]
theorem thing_mem {name : ByteArray} {l : List Rul} (h : thingS name l = true) : name ∈ thingsS l := by
  by_cases hm : name ∈ thingsS l
  · exact hm
  · exfalso
    have hno : ∀ x ∈ l, ∀ c ∈ x.counts.l, ¬ eqB c.thing name = true := fun x hx c hc e => hm (mem_thingsR.2 (.inr ⟨x, hx, c, hc, eqB_eq.1 e⟩))
    have h1 := ((thingF_le name 0 l (0, 1000)).1).2 ⟨by omega, fun x hx c hc e => absurd e (hno x hx c hc)⟩
    have h2 := ((thingF_le name 1000 l (0, 1000)).2).2 ⟨by omega, fun x hx c hc e => absurd e (hno x hx c hc)⟩
    simp only [thingS, overB, decide_eq_true_eq] at h
    omega
/-- Rules that contradict each other in no kind do so under no thing's name. -/
theorem kindS_none {l : List Rul} (h : kindS l = 0) {k : Int} (hk : 1 ≤ k) (ts : List ByteArray) : contraS l k ts = false := by
  by_cases h5 : k < 5
  · have z := kindS_zero h (j := k) hk (by omega)
    have : k = 1 ∨ k = 2 ∨ k = 3 ∨ k = 4 := by omega
    rcases this with rfl | rfl | rfl | rfl <;> exact z
  · cases hc : contraS l k ts with
    | false => rfl
    | true =>
      have n1 : (k == 1) = false := by simp; omega
      have n2 : (k == 2) = false := by simp; omega
      have n3 : (k == 3) = false := by simp; omega
      have n4 : (k == 4) = false := by simp; omega
      unfold contraS at hc
      rw [n1, n2, n3, n4] at hc
      simp only [cond_false] at hc
      generalize ts.getD (k - 5).toNat ⟨#[]⟩ = name at hc
      obtain ⟨i, hi⟩ := List.getElem?_of_mem (thing_mem hc)
      have hil : i < (thingsS l).length := (List.getElem?_eq_some_iff.1 hi).1
      have z := kindS_zero h (j := 5 + i) (by omega) (by omega)
      have m1 : ((5 + (i : Int)) == 1) = false := by simp; omega
      have m2 : ((5 + (i : Int)) == 2) = false := by simp; omega
      have m3 : ((5 + (i : Int)) == 3) = false := by simp; omega
      have m4 : ((5 + (i : Int)) == 4) = false := by simp; omega
      unfold contraS at z
      rw [m1, m2, m3, m4] at z
      simp only [cond_false, show (5 + (i : Int) - 5).toNat = i by omega] at z
      rw [List.getD_eq_getElem?_getD, hi] at z
      rw [show thingS name l = false from z] at hc
      cases hc
theorem cures_in {l : List Rul} (ok : RulsOK l) {ns : List Int} {s : List Rul × List Int} (h : Some l ns s) {k : Int} {ts : List ByteArray} (hk : 1 ≤ k) (hc : contraS s.1 k ts = true) {c : Nat} (hz : kindS (l.eraseIdx c) = 0) {m : Int} (hm : ns[c]? = some m) : m ∈ s.2 := by
  obtain ⟨ix, h1, h2, h3⟩ := h.ex
  by_cases hi : c ∈ ix
  · have : some m ∈ s.2.map some := by
      rw [h3]
      exact List.mem_map.2 ⟨c, hi, hm⟩
    obtain ⟨m', hm', e⟩ := List.mem_map.1 this
    rw [← Option.some.inj e]
    exact hm'
  · exfalso
    have hsub : s.1 ⊆ l.eraseIdx c := fun x hx => by
      have : some x ∈ s.1.map some := List.mem_map.2 ⟨x, hx, rfl⟩
      rw [h2] at this
      obtain ⟨j, hj, e⟩ := List.mem_map.1 this
      exact List.mem_eraseIdx_iff_getElem?.2 ⟨j, fun e => hi (e ▸ hj), e⟩
    have := contraS_sub (ok.erase c) hsub hc
    rw [kindS_none hz hk ts] at this
    cases this
theorem curesF_mem {l : List Rul} {c : Int} : ∀ {ns : List Int} {i : Nat}, c ∈ curesF l ns i → ∃ j, ns[j]? = some c ∧ kindS (l.eraseIdx (i + j)) = 0
  | [], i, h => by simp [curesF] at h
  | n :: ns, i, h => by
    simp only [curesF] at h
    cases hk : kindS (l.eraseIdx i) == 0 with
    | true =>
      rw [hk, cond_true, List.mem_cons] at h
      rcases h with h | h
      · exact ⟨0, by rw [h]; rfl, by simpa using hk⟩
      · obtain ⟨j, hj, e⟩ := curesF_mem h
        exact ⟨j + 1, by simpa using hj, by rw [show i + (j + 1) = i + 1 + j by omega]; exact e⟩
    | false =>
      rw [hk, cond_false] at h
      obtain ⟨j, hj, e⟩ := curesF_mem h
      exact ⟨j + 1, by simpa using hj, by rw [show i + (j + 1) = i + 1 + j by omega]; exact e⟩
/-- The rules but that of a place. -/
def restF (c : Nat) : List Rul → Nat → List Rul
  | [], _ => []
  | x :: l, i => bif i == c then restF c l (i + 1) else x :: restF c l (i + 1)
theorem restF_gt (c : Nat) : ∀ (l : List Rul) (i : Nat), c < i → restF c l i = l
  | [], _, _ => rfl
  | x :: l, i, h => by
    have : (i == c) = false := by simp; omega
    simp only [restF, this, cond_false, restF_gt c l (i + 1) (by omega)]
theorem restF_eq (c : Nat) : ∀ (l : List Rul) (i : Nat), i ≤ c → restF c l i = l.eraseIdx (c - i)
  | [], _, _ => by simp [restF]
  | x :: l, i, h => by
    by_cases e : i = c
    · subst e
      simp only [restF, beq_self_eq_true, cond_true, Nat.sub_self, List.eraseIdx_cons_zero]
      exact restF_gt i l (i + 1) (by omega)
    · have : (i == c) = false := by simp; omega
      simp only [restF, this, cond_false]
      rw [restF_eq c l (i + 1) (by omega), show c - i = (c - (i + 1)) + 1 by omega, List.eraseIdx_cons_succ]
theorem restF_zero (c : Nat) (l : List Rul) : restF c l 0 = l.eraseIdx c := restF_eq c l 0 (Nat.zero_le _)
end Go.PM.Try

namespace Go.PM.Try
open Go.Proofs
attribute [local irreducible] eIf eReq eGet eNil slLen slRows slIdx slSub slZero slView eFind eLoopN CC Sl.enc
variable {R : Type} [Stops R] [CCW R] {n : Nat} {fr : Frames} {K : PV → Option LB → Frames → Option R} {r : R}
set_option maxRecDepth 8000
set_option linter.unusedSectionVars false

theorem s35t {l : List Rul} {rows : List (List RV)} (hr : rows = l.map Rul.enc) (ok : RulsOK l) (h : K (iv (kindS l)) none fr = some r) : (CC (n+3)).fn 35 [rv (sealT 11 rows)] fr K = some r := by
  rw [hr, seal_enc]
  exact s35 (s := ⟨0, l⟩) ok h
theorem s35n {l : List Rul} (hl : l = []) (h : K (iv (kindS l)) none fr = some r) : (CC (n+3)).fn 35 [rv .esl] fr K = some r := by
  rw [esl_enc 11 Rul.enc, ← hl]
  exact s35 (s := ⟨1, l⟩) (by rw [hl]; exact ⟨by simp, by simp, by simp⟩) h
theorem s32k {s : Sl Aut} {t : Trp} {p : Int} {V : List Int} {E : Int} (hv : curesV s.l t p = V) (he : curesE s.l t p = E) (h : K (rv (.tup [Sl.enc 1 encI ⟨0, V⟩, .int .i64 E])) none fr = some r) : (CC (n+18)).fn 32 [rv (s.enc 4 Aut.enc), gv t.enc, iv p] fr K = some r := by
  refine s32 ?_
  rw [hv, he]
  exact h
theorem cures_at {l : List Aut} {t : Trp} {p : Int} (h : findE l t p = 0) : ∃ q, At l t p q ∧ conflR l t p = conflS (ownRls l t.sizes (firstN l t p.toNat) q) ∧ curesE l t p = (bif kindS (ownR l t.sizes q) == 0 then 5 else 0) ∧ curesV l t p = bif kindS (ownR l t.sizes q) == 0 then [] else curesF (ownR l t.sizes q) (numsR (firstN l t p.toNat) (ownR l t.sizes q).length) 0 := by
  obtain ⟨q, hat, hd⟩ := At.of h
  have b0 : (findE l t p == 0) = true := by simpa using h
  refine ⟨q, hat, ?_, ?_, ?_⟩
  · simp only [conflR, b0, cond_true, hd]
  · simp only [curesE, b0, cond_true, hd]; rfl
  · simp only [curesV, b0, cond_true, hd]; rfl
set_option maxHeartbeats 4000000 in
theorem s8 {s : Sl Aut} {t : Trp} {p : Int} (h : K (bv true) none fr = some r) : (CC (n+21)).fn 8 [rv (s.enc 4 Aut.enc), gv t.enc, iv p] fr K = some r := by
  refine cc q8_ok rfl ?_
  by_cases he : findE s.l t p = 0
  · obtain ⟨q, hat, hcf, hcE, hcV⟩ := cures_at he
    have rok := ruls_at hat
    by_cases hk : kindS (ownR s.l t.sizes q) = 0
    · have hkb : (kindS (ownR s.l t.sizes q) == 0) = true := by simpa using hk
      rw [hkb, cond_true] at hcE hcV
      have hcf' : conflR s.l t p = (0, ⟨0, []⟩) := by
        rw [hcf]
        unfold conflS
        rw [show (kindS (ownRls s.l t.sizes (firstN s.l t p.toNat) q).list.l == 0) = true from hkb]
        rfl
      conv => lhs; whnf
      repeat' ((first | refine eIf_t ?_ | refine eIf_f ?_ | refine eGet_i rfl ?_ | refine eReq_i rfl ?_ | refine slLen_e ?_ | refine s12 (fun b => ?_) | refine s13 ?_ | refine s32k hcV hcE ?_ | refine s25k he hcf' ?_ | refine eIf_ct rfl ?_ | refine eIf_cf rfl ?_ | refine eIf_i (fun _ => ?_) (fun _ => ?_)) <;> (try (conv => lhs; whnf)))
      all_goals exact h
    · obtain ⟨own, ho⟩ : ∃ own, ownR s.l t.sizes q = own := ⟨_, rfl⟩
      obtain ⟨n0, hn0⟩ : ∃ n0, firstN s.l t p.toNat = n0 := ⟨_, rfl⟩
      have hkb : (kindS (ownR s.l t.sizes q) == 0) = false := by simpa using hk
      rw [hkb, cond_false] at hcE hcV
      rw [ho, hn0] at hcV
      rw [ho] at hk rok
      have c4 : (!(beginS s.l t == 0)) = false := by rw [hat.hb]; rfl
      obtain ⟨kind, hkd⟩ : ∃ kind, kindS own = kind := ⟨_, rfl⟩
      obtain ⟨k1, k2, k3⟩ := kindS_range hk
      rw [hkd] at k1 k2 k3 hk
      obtain ⟨D, hD⟩ : ∃ D, dropF kind (thingsS own) own.length (own, numsR n0 own.length) = D := ⟨_, rfl⟩
      obtain ⟨d1, d2, -⟩ := dropF_ok rok (ns := numsR n0 own.length) own.length (own, numsR n0 own.length) (some_all _ _ (numsR_len _ _)) (Nat.le_refl _) k3 (fun j h1 h2 => by
        have h2' : j < own.length := h2
        omega)
      rw [hD] at d1 d2
      have hcf' : conflR s.l t p = (kind, ⟨2, D.2⟩) := by
        rw [hcf]
        unfold conflS
        have hkf : (kindS (ownRls s.l t.sizes (firstN s.l t p.toNat) q).list.l == 0) = false := hkb
        rw [hkf, cond_false]
        show (kindS (ownR s.l t.sizes q), (⟨2, (dropF (kindS (ownR s.l t.sizes q)) (thingsS (ownR s.l t.sizes q)) (ownR s.l t.sizes q).length (ownR s.l t.sizes q, numsR (firstN s.l t p.toNat) (ownR s.l t.sizes q).length)).2⟩ : Sl Int)) = _
        rw [ho, hn0, hkd, hD]
      clear hD hcf
      obtain ⟨S, C⟩ := D
      simp only at hcf' d1 d2
      have hin : ∀ (c : Nat) (m : Int), kindS (own.eraseIdx c) = 0 → (numsR n0 own.length)[c]? = some m → m ∈ C := fun c m hz hm => cures_in rok d1 k1 d2 hz hm
      have hV : ∀ v ∈ curesF own (numsR n0 own.length) 0, ∃ c, c < own.length ∧ v = ((n0 + c : Nat) : Int) ∧ kindS (own.eraseIdx c) = 0 ∧ v ∈ C := fun v hv => by
        obtain ⟨c, hc, hz⟩ := curesF_mem hv
        rw [Nat.zero_add] at hz
        have hcl : c < own.length := by
          have := (List.getElem?_eq_some_iff.1 hc).1
          rwa [numsR_len] at this
        refine ⟨c, hcl, ?_, hz, hin c v hz hc⟩
        rw [numsR_get hcl] at hc
        exact (Option.some.inj hc).symm
      have hVl : (curesF own (numsR n0 own.length) 0).length ≤ own.length := by
        have g : ∀ (ns : List Int) (i : Nat), (curesF own ns i).length ≤ ns.length := fun ns => by
          induction ns with
          | nil => intro i; simp [curesF]
          | cons a ns ih =>
            intro i
            simp only [curesF]
            cases kindS (own.eraseIdx i) == 0 with
            | true => simp only [cond_true, List.length_cons]; have := ih (i + 1); omega
            | false => simp only [cond_false, List.length_cons]; have := ih (i + 1); omega
        have := g (numsR n0 own.length) 0
        rwa [numsR_len] at this
      have hCl : C.length ≤ own.length := by
        obtain ⟨ix, x1, x2, x3⟩ := d1.ex
        have a1 := congrArg List.length x2
        have a2 := congrArg List.length x3
        simp only [List.length_map] at a1 a2
        have := d1.rl.length_le
        simp only at this
        omega
      generalize curesF own (numsR n0 own.length) 0 = V at hcV hV hVl
      have hown := rok.len
      have f1 : (kind == 0) = false := by simpa using hk
      conv => lhs; whnf
      repeat' ((first | refine eIf_t ?_ | refine eIf_f ?_ | refine eGet_i rfl ?_ | refine eReq_i rfl ?_ | refine slLen_e ?_ | refine s12 (fun b => ?_) | refine s13 ?_ | refine s32k hcV hcE ?_ | refine s25k he hcf' ?_ | refine eIf_cf rfl ?_ | refine eIf_cf f1 ?_ | refine s22 ?_ | refine eIf_cf c4 ?_ | refine s23o hat ho hn0 ?_ | refine eIf_i (fun _ => ?_) (fun _ => ?_)) <;> (try (conv => lhs; whnf)))
      · exact h
      refine eLoop_l V (fun i => [(7, rv (Sl.enc 1 encI ⟨0, V⟩)), (10, rv (Sl.enc 1 encI ⟨2, C⟩)), (12, rv (Sl.enc 1 encI ⟨0, numsR n0 own.length⟩)), (13, rv (Sl.enc 11 Rul.enc ⟨0, own⟩)), (14, iv i)]) (fun _ => [] :: fr) (fun _ => True) (fun i v L hv hi _ hL => ?_) (fun L _ => ?_) _ (by omega) trivial
      · obtain ⟨c, hc, hvc, hz, hvC⟩ := hV v (List.mem_of_getElem? hv)
        have hvi : V[i]? = some ((n0 + c : Nat) : Int) := by rw [hv, hvc]
        conv => lhs; whnf
        repeat' ((first | refine eIf_t ?_ | refine eIf_f ?_ | refine eGet_i rfl ?_ | refine eReq_i rfl ?_ | refine slLen_e ?_ | refine eIf_ct (lt_t hi) ?_ | refine eIf_i (fun _ => ?_) (fun _ => ?_)) <;> (try (conv => lhs; whnf)))
        refine eLoop_i (R := R) (σ := Nat × List Rul) (fun z => [(7, rv (Sl.enc 1 encI ⟨0, V⟩)), (10, rv (Sl.enc 1 encI ⟨2, C⟩)), (12, rv (Sl.enc 1 encI ⟨0, numsR n0 own.length⟩)), (13, rv (Sl.enc 11 Rul.enc ⟨0, own⟩)), (14, iv i), (15, .s (.tsl 11 (z.2.map Rul.enc) 0 0)), (16, bv false), (17, iv z.1)]) (fun z => [.tok 11 z.2.length] :: fr) (fun z => z.1 ≤ own.length ∧ z.2.length ≤ z.1 ∧ z.2 ++ restF c (own.drop z.1) z.1 = own.eraseIdx c) (fun z => own.length - z.1) (fun z L' hC hL' => ?_) _ (0, []) ⟨Nat.zero_le _, Nat.zero_le _, by rw [List.nil_append, List.drop_zero]; exact restF_zero c own⟩ (by show own.length - 0 < _; omega)
        obtain ⟨j, o⟩ := z
        obtain ⟨hj, hol, hC⟩ := hC
        simp only at hj hol hC hL'
        rcases Nat.lt_or_ge j own.length with hjl | hjg
        · obtain ⟨y, hy⟩ : ∃ y, own[j]? = some y := ⟨_, List.getElem?_eq_getElem hjl⟩
          rw [drop_succ hy] at hC
          simp only [restF] at hC
          by_cases e : j = c
          · have e' : (j == c) = true := by simpa using e
            rw [e', cond_true] at hC
            conv => lhs; whnf
            repeat' ((first | refine eIf_t ?_ | refine eIf_f ?_ | refine eGet_i rfl ?_ | refine eReq_i rfl ?_ | refine slLen_e ?_ | refine eIf_ct (show decide ((j : Int) < ((numsR n0 own.length).length : Int)) = true from decide_eq_true (by rw [numsR_len]; omega)) ?_ | refine slIdx_e rfl (Int.natCast_nonneg _) (numsR_get hjl) ?_ | refine slIdx_e rfl (Int.natCast_nonneg _) hvi ?_ | refine eIf_cf (show (((n0 + j : Nat) : Int) != ((n0 + c : Nat) : Int)) = false by rw [e]; simp) ?_ | refine eIf_i (fun _ => ?_) (fun _ => ?_)) <;> (try (conv => lhs; whnf)))
            exact l_eq (hL' (j + 1, o) ⟨hjl, by show o.length ≤ _; omega, hC⟩ (by show own.length - (j + 1) < _; omega)) (by rw [wrap_up (by omega)]) rfl
          · have e' : (j == c) = false := by simpa using e
            rw [e', cond_false] at hC
            conv => lhs; whnf
            repeat' ((first | refine eIf_t ?_ | refine eIf_f ?_ | refine eGet_i rfl ?_ | refine eReq_i rfl ?_ | refine slLen_e ?_ | refine eIf_ct (show decide ((j : Int) < ((numsR n0 own.length).length : Int)) = true from decide_eq_true (by rw [numsR_len]; omega)) ?_ | refine slIdx_e rfl (Int.natCast_nonneg _) (numsR_get hjl) ?_ | refine slIdx_e rfl (Int.natCast_nonneg _) hvi ?_ | refine eIf_ct (show (((n0 + j : Nat) : Int) != ((n0 + c : Nat) : Int)) = true by rw [bne_iff_ne]; omega) ?_ | refine slIdx_e rfl (Int.natCast_nonneg _) hy ?_ | refine slRows_v ?_ | refine eNil_c rfl ?_ | refine eReq_i (by simp [Nat.ble_eq]; omega) ?_ | refine eIf_i (fun _ => ?_) (fun _ => ?_)) <;> (try (conv => lhs; whnf)))
            exact l_eq (hL' (j + 1, o ++ [y]) ⟨hjl, by simp; omega, by rw [List.append_assoc]; exact hC⟩ (by show own.length - (j + 1) < _; omega)) (by rw [wrap_up (by omega)]; simp) (by simp)
        · have : j = own.length := by omega
          subst this
          rw [List.drop_length] at hC
          simp only [restF, List.append_nil] at hC
          subst hC
          have hel : (own.eraseIdx c).length = own.length - 1 := by rw [List.length_eraseIdx, if_pos hc]
          conv => lhs; whnf
          repeat' ((first | refine eIf_t ?_ | refine eIf_f ?_ | refine eGet_i rfl ?_ | refine eReq_i rfl ?_ | refine slLen_e ?_ | refine eIf_cf (show decide ((own.length : Int) < ((numsR n0 own.length).length : Int)) = false from decide_eq_false (by rw [numsR_len]; omega)) ?_ | refine eIf_i (fun _ => ?_) (fun _ => ?_)) <;> (try (conv => lhs; whnf)))
          refine eLoop_i (R := R) (σ := Nat × Bool) (fun z => [(7, rv (Sl.enc 1 encI ⟨0, V⟩)), (10, rv (Sl.enc 1 encI ⟨2, C⟩)), (12, rv (Sl.enc 1 encI ⟨0, numsR n0 own.length⟩)), (13, rv (Sl.enc 11 Rul.enc ⟨0, own⟩)), (14, iv i), (15, .s (.tsl 11 ((own.eraseIdx c).map Rul.enc) 0 0)), (16, bv z.2), (18, iv z.1)]) (fun z => [.tok 11 (own.eraseIdx c).length] :: fr) (fun z => z.1 ≤ C.length ∧ (z.2 || (C.drop z.1).any (· == ((n0 + c : Nat) : Int))) = true) (fun z => C.length - z.1) (fun z L'' hF hL'' => ?_) _ (0, false) ⟨Nat.zero_le _, by rw [Bool.false_or, List.drop_zero, List.any_eq_true]; exact ⟨v, hvC, by rw [hvc]; simp⟩⟩ (by show C.length - 0 < _; omega)
          obtain ⟨j, f⟩ := z
          obtain ⟨hj, hF⟩ := hF
          simp only at hj hF hL''
          rcases Nat.lt_or_ge j C.length with hjl | hjg
          · obtain ⟨y, hy⟩ : ∃ y, C[j]? = some y := ⟨_, List.getElem?_eq_getElem hjl⟩
            rw [drop_succ hy, List.any_cons] at hF
            cases f with
            | true =>
              conv => lhs; whnf
              repeat' ((first | refine eIf_t ?_ | refine eIf_f ?_ | refine eGet_i rfl ?_ | refine eReq_i rfl ?_ | refine slLen_e ?_ | refine eIf_ct (lt_t hjl) ?_ | refine eIf_ct rfl ?_ | refine eIf_i (fun _ => ?_) (fun _ => ?_)) <;> (try (conv => lhs; whnf)))
              exact l_eq (hL'' (j + 1, true) ⟨hjl, rfl⟩ (by show C.length - (j + 1) < _; omega)) (by rw [wrap_up (by omega)]) rfl
            | false =>
              conv => lhs; whnf
              repeat' ((first | refine eIf_t ?_ | refine eIf_f ?_ | refine eGet_i rfl ?_ | refine eReq_i rfl ?_ | refine slLen_e ?_ | refine eIf_ct (lt_t hjl) ?_ | refine eIf_cf rfl ?_ | refine slIdx_e rfl (Int.natCast_nonneg _) hy ?_ | refine slIdx_e rfl (Int.natCast_nonneg _) hvi ?_ | refine eIf_i (fun _ => ?_) (fun _ => ?_)) <;> (try (conv => lhs; whnf)))
              exact l_eq (hL'' (j + 1, y == ((n0 + c : Nat) : Int)) ⟨hjl, by rw [Bool.false_or] at hF; exact hF⟩ (by show C.length - (j + 1) < _; omega)) (by rw [wrap_up (by omega)]) rfl
          · have : j = C.length := by omega
            subst this
            rw [List.drop_length, List.any_nil, Bool.or_false] at hF
            subst hF
            have hw : IntKind.wrap .i64 ((own.length : Int) - 1) = ((own.length - 1 : Nat) : Int) := by rw [wrap_id (by omega) (by omega)]; omega
            have g1 : ((((own.eraseIdx c).map Rul.enc).length : Int) != IntKind.wrap .i64 ((own.length : Int) - 1)) = false := by rw [hw, List.length_map, hel]; simp
            have g2 : (kindS (own.eraseIdx c) != 0) = false := by rw [hz]; rfl
            conv => lhs; whnf
            repeat' ((first | refine eIf_t ?_ | refine eIf_f ?_ | refine eGet_i rfl ?_ | refine eReq_i rfl ?_ | refine slLen_e ?_ | refine eIf_cf lt_f ?_ | refine eIf_cf rfl ?_ | refine eIf_cf g1 ?_ | refine s35t (l := own.eraseIdx c) rfl (rok.erase c) ?_ | refine eIf_cf g2 ?_ | refine eIf_i (fun _ => ?_) (fun _ => ?_)) <;> (try (conv => lhs; whnf)))
            exact l_eq (hL trivial) (by rw [wrap_up (by omega)]) rfl
      · conv => lhs; whnf
        repeat' ((first | refine eIf_t ?_ | refine eIf_f ?_ | refine eGet_i rfl ?_ | refine eReq_i rfl ?_ | refine slLen_e ?_ | refine eIf_cf lt_f ?_ | refine s13 ?_ | refine eIf_i (fun _ => ?_) (fun _ => ?_)) <;> (try (conv => lhs; whnf)))
        exact h
  · have b0 : (findE s.l t p != 0) = true := by simpa using he
    have e0 : (findE s.l t p == 0) = false := by simpa using he
    have hcf' : conflR s.l t p = (0, ⟨0, []⟩) := by simp only [conflR, e0, cond_false]
    have hcE : curesE s.l t p = findE s.l t p := by simp only [curesE, e0, cond_false]
    have hcV : curesV s.l t p = [] := by simp only [curesV, e0, cond_false]
    conv => lhs; whnf
    repeat' ((first | refine eIf_t ?_ | refine eIf_f ?_ | refine eGet_i rfl ?_ | refine eReq_i rfl ?_ | refine slLen_e ?_ | refine s12 (fun b => ?_) | refine s13 ?_ | refine s32k hcV hcE ?_ | refine s25 ?_ | refine eIf_ct b0 ?_ | refine eIf_ct (show (findE s.l t p == findE s.l t p) = true by simp) ?_ | refine eIf_ct rfl ?_ | refine eIf_i (fun _ => ?_) (fun _ => ?_)) <;> (try (conv => lhs; whnf)))
    all_goals exact h
end Go.PM.Try
