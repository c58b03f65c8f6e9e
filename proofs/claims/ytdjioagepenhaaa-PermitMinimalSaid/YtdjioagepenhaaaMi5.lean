/-
Part 5 of a proof: the machine PM, its law, the walks through the program, and what they say: PW29, PW30, PW31.
-/
import Derived.Test.YtdjioagepenhaaaMi4
set_option linter.unusedVariables false
set_option linter.unusedSimpArgs false
set_option linter.unusedSectionVars false
set_option linter.unnecessarySimpa false
namespace Go.PM.Try
set_option linter.unusedSectionVars false

/-! ### days as bits -/
theorem andS_nat (a b : Nat) (ha : a < 128) (hb : b < 128) : andS a b = ((a &&& b : Nat) : Int) := by
  have h1 : a &&& b < 128 := Nat.and_lt_two_pow a (n := 7) (by omega)
  have e : (BitVec.ofInt 64 (a : Int) &&& BitVec.ofInt 64 (b : Int)).toNat = a &&& b := by
    rw [BitVec.toNat_and, BitVec.ofInt_natCast, BitVec.ofInt_natCast, BitVec.toNat_ofNat, BitVec.toNat_ofNat, Nat.mod_eq_of_lt (by omega), Nat.mod_eq_of_lt (by omega)]
  show IntKind.wrap .i64 (((BitVec.ofInt 64 (a : Int) &&& BitVec.ofInt 64 (b : Int)).toNat : Nat) : Int) = _
  rw [e, wrap_id (by omega) (by omega)]
def bitOf (days : Int) (w : Nat) : Bool := days.toNat.testBit w
theorem dayBit_eq {days d : Int} (h : 0 ≤ days) (hd : 0 ≤ d) : dayBit days d = bitOf days (d % 7).toNat := by
  obtain ⟨m, rfl⟩ : ∃ m : Nat, days = m := ⟨days.toNat, by omega⟩
  unfold dayBit bitOf
  rw [Int.toNat_natCast, Nat.testBit_eq_decide_div_mod_eq]
  have e : ((m : Int) / 2 ^ (d % 7).toNat % 2) = ((m / 2 ^ (d % 7).toNat % 2 : Nat) : Int) := by
    rw [Int.natCast_emod, Int.natCast_ediv, Int.natCast_pow]; rfl
  rw [e, Bool.eq_iff_iff, beq_iff_eq, decide_eq_true_eq]
  omega
theorem daysF_bits : ∀ (l : List Rul) (a : Int), 0 ≤ a → a < 128 → (∀ x ∈ l, 0 ≤ x.days ∧ x.days ≤ 127) → 0 ≤ daysF l a ∧ daysF l a < 128 ∧ ∀ w, bitOf (daysF l a) w = (bitOf a w && l.all fun x => bitOf x.days w)
  | [], a, h1, h2, _ => ⟨h1, h2, fun w => by simp [daysF]⟩
  | x :: l, a, h1, h2, h => by
    obtain ⟨d1, d2⟩ := h x (by simp)
    obtain ⟨m, rfl⟩ : ∃ m : Nat, a = m := ⟨a.toNat, by omega⟩
    obtain ⟨k, hk⟩ : ∃ k : Nat, x.days = k := ⟨x.days.toNat, by omega⟩
    have hlt : m &&& k < 128 := Nat.and_lt_two_pow m (n := 7) (by omega)
    have e : andS m x.days = ((m &&& k : Nat) : Int) := by rw [hk]; exact andS_nat m k (by omega) (by omega)
    obtain ⟨q1, q2, q3⟩ := daysF_bits l (andS m x.days) (by rw [e]; omega) (by rw [e]; omega) fun y hy => h y (by simp [hy])
    refine ⟨q1, q2, fun w => ?_⟩
    rw [daysF, q3 w, e, List.all_cons, hk]
    simp only [bitOf, Int.toNat_natCast, Nat.testBit_and, Bool.and_assoc]
theorem daysF_zero {l : List Rul} (h : ∀ x ∈ l, 0 ≤ x.days ∧ x.days ≤ 127) : (daysF l 127 == 0) = true ↔ ∀ w, w < 7 → ∃ x ∈ l, bitOf x.days w = false := by
  obtain ⟨q1, q2, q3⟩ := daysF_bits l 127 (by omega) (by omega) h
  have b127 : ∀ w, w < 7 → bitOf 127 w = true := by decide
  rw [beq_iff_eq]
  constructor
  · intro h0 w hw
    have := q3 w
    rw [h0, b127 w hw, Bool.true_and] at this
    have e : bitOf 0 w = false := by simp [bitOf]
    rw [e] at this
    obtain ⟨x, hx, hb⟩ := List.all_eq_false.1 this.symm
    exact ⟨x, hx, by simpa using hb⟩
  · intro h0
    by_cases hz : (daysF l 127).toNat = 0
    · omega
    · exfalso
      obtain ⟨i, hi⟩ := Nat.exists_testBit_of_ne_zero hz
      have hi7 : i < 7 := by
        rcases Nat.lt_or_ge i 7 with h | h
        · exact h
        · have : (daysF l 127).toNat < 2 ^ i := Nat.lt_of_lt_of_le (show (daysF l 127).toNat < 2 ^ 7 by omega) (Nat.pow_le_pow_right (by omega) h)
          rw [Nat.testBit_lt_two_pow this] at hi; cases hi
      obtain ⟨x, hx, hb⟩ := h0 i hi7
      have := q3 i
      rw [show bitOf (daysF l 127) i = true from hi] at this
      have h2 := (Bool.and_eq_true _ _ ▸ this.symm : bitOf 127 i = true ∧ (l.all fun x => bitOf x.days i) = true).2
      rw [List.all_eq_true.1 h2 x hx] at hb; cases hb
/-! ### numbers of a thing -/
theorem maxS_le {a b m : Int} : maxS a b ≤ m ↔ a ≤ m ∧ b ≤ m := by
  unfold maxS
  by_cases h : a < b
  · rw [decide_eq_true h, cond_true]; omega
  · rw [decide_eq_false h, cond_false]; omega
theorem le_minS {a b m : Int} : m ≤ minS a b ↔ m ≤ a ∧ m ≤ b := by
  unfold minS
  by_cases h : b < a
  · rw [decide_eq_true h, cond_true]; omega
  · rw [decide_eq_false h, cond_false]; omega
theorem cntF_le (name : ByteArray) (m : Int) : ∀ (l : List Cnt) (a : Int × Int), ((cntF name l a).1 ≤ m ↔ a.1 ≤ m ∧ ∀ c ∈ l, eqB c.thing name = true → c.least ≤ m) ∧ (m ≤ (cntF name l a).2 ↔ m ≤ a.2 ∧ ∀ c ∈ l, eqB c.thing name = true → m ≤ c.most)
  | [], a => by simp [cntF]
  | c :: l, a => by
    simp only [cntF]
    cases h : eqB c.thing name with
    | false =>
      obtain ⟨h1, h2⟩ := cntF_le name m l a
      rw [cond_false, h1, h2]
      simp [h]
    | true =>
      obtain ⟨h1, h2⟩ := cntF_le name m l (maxS a.1 c.least, minS a.2 c.most)
      rw [cond_true, h1, h2]
      simp only [maxS_le, le_minS, List.mem_cons, forall_eq_or_imp, h, true_implies]
      exact ⟨by rw [and_assoc], by rw [and_assoc]⟩
theorem thingF_le (name : ByteArray) (m : Int) : ∀ (l : List Rul) (a : Int × Int), ((thingF name l a).1 ≤ m ↔ a.1 ≤ m ∧ ∀ x ∈ l, ∀ c ∈ x.counts.l, eqB c.thing name = true → c.least ≤ m) ∧ (m ≤ (thingF name l a).2 ↔ m ≤ a.2 ∧ ∀ x ∈ l, ∀ c ∈ x.counts.l, eqB c.thing name = true → m ≤ c.most)
  | [], a => by simp [thingF]
  | x :: l, a => by
    obtain ⟨h1, h2⟩ := thingF_le name m l (cntF name x.counts.l a)
    obtain ⟨h3, h4⟩ := cntF_le name m x.counts.l a
    simp only [thingF]
    rw [h1, h2, h3, h4]
    simp only [List.mem_cons, forall_eq_or_imp]
    exact ⟨by rw [and_assoc], by rw [and_assoc]⟩
theorem RulsOK.sub {l l' : List Rul} (h : RulsOK l') (hs : l.Sublist l') : RulsOK l :=
  ⟨Nat.lt_of_le_of_lt hs.length_le h.len, fun x hx => h.t x (hs.subset hx), fun x hx => h.c x (hs.subset hx)⟩
theorem contraS_mono {l l' : List Rul} (ok : RulsOK l') (hs : l.Sublist l') {k : Int} {ts : List ByteArray} (h : contraS l k ts = true) : contraS l' k ts = true := by
  have hsub := hs.subset
  have anyM : ∀ p : Rul → Bool, l.any p = true → l'.any p = true := fun p hp => by
    obtain ⟨x, hx, hq⟩ := List.any_eq_true.1 hp
    exact List.any_eq_true.2 ⟨x, hsub hx, hq⟩
  have allM : ∀ (m : Nat) (p : List Rul → Nat → Bool), (∀ v, p l v = true → p l' v = true) → (List.range m).all (p l) = true → (List.range m).all (p l') = true := fun m p hp hq => by
    rw [List.all_eq_true] at hq ⊢
    exact fun v hv => hp v (hq v hv)
  unfold contraS at h ⊢
  cases e1 : (k == 1) with
  | true =>
    rw [e1] at h
    simp only [cond_true] at h ⊢
    exact anyM _ h
  | false =>
    rw [e1] at h
    cases e2 : (k == 2) with
    | true =>
      rw [e2] at h
      simp only [cond_true, cond_false] at h ⊢
      exact allM 1440 emptyH (fun v => anyM _) h
    | false =>
      rw [e2] at h
      cases e3 : (k == 3) with
      | true =>
        rw [e3] at h
        simp only [cond_true, cond_false] at h ⊢
        rw [daysF_zero fun x hx => ⟨(ok.t x hx).d0, (ok.t x hx).d1⟩]
        intro w hw
        obtain ⟨x, hx, hb⟩ := (daysF_zero fun x hx => ⟨(ok.t x (hsub hx)).d0, (ok.t x (hsub hx)).d1⟩).1 h w hw
        exact ⟨x, hsub hx, hb⟩
      | false =>
        rw [e3] at h
        cases e4 : (k == 4) with
        | true =>
          rw [e4] at h
          simp only [cond_true, cond_false] at h ⊢
          exact allM 365 emptyN (fun v => anyM _) h
        | false =>
          rw [e4] at h
          simp only [cond_false] at h ⊢
          generalize ts.getD (k - 5).toNat ⟨#[]⟩ = name at *
          simp only [thingS, overB, decide_eq_true_eq] at h ⊢
          have h1 := ((thingF_le name (thingF name l' (0, 1000)).1 l' (0, 1000)).1).1 (Int.le_refl _)
          have h2 := ((thingF_le name (thingF name l' (0, 1000)).2 l' (0, 1000)).2).1 (Int.le_refl _)
          have h3 := ((thingF_le name (thingF name l' (0, 1000)).1 l (0, 1000)).1).2 ⟨h1.1, fun x hx => h1.2 x (hsub hx)⟩
          have h4 := ((thingF_le name (thingF name l' (0, 1000)).2 l (0, 1000)).2).2 ⟨h2.1, fun x hx => h2.2 x (hsub hx)⟩
          omega
/-! ### what is left of a conflict -/
theorem erase_comm {α : Type} : ∀ (l : List α) (i j : Nat), i ≤ j → (l.eraseIdx i).eraseIdx j = (l.eraseIdx (j + 1)).eraseIdx i
  | [], i, j, _ => by simp
  | x :: l, 0, j, _ => by simp [List.eraseIdx_cons_succ]
  | x :: l, i + 1, 0, h => by omega
  | x :: l, i + 1, j + 1, h => by
    simp only [List.eraseIdx_cons_succ]
    rw [erase_comm l i j (by omega)]
/-- Some of the rules, with their numbers. -/
structure Some (l : List Rul) (ns : List Int) (s : List Rul × List Int) : Prop where
  rl : s.1.Sublist l
  ex : ∃ ix : List Nat, ix.Pairwise (· < ·) ∧ s.1.map some = ix.map (l[·]?) ∧ s.2.map some = ix.map (ns[·]?)
theorem eraseIdx_map {α β : Type} (f : α → β) : ∀ (l : List α) (i : Nat), (l.eraseIdx i).map f = (l.map f).eraseIdx i
  | [], i => by simp
  | x :: l, 0 => by simp
  | x :: l, i + 1 => by simp [eraseIdx_map f l i]
theorem Some.erase {l : List Rul} {ns : List Int} {s : List Rul × List Int} (h : Some l ns s) (i : Nat) : Some l ns (s.1.eraseIdx i, s.2.eraseIdx i) := by
  obtain ⟨ix, h1, h2, h3⟩ := h.ex
  exact ⟨(List.eraseIdx_sublist _ _).trans h.rl, ix.eraseIdx i, h1.sublist (List.eraseIdx_sublist _ _), by simp only [eraseIdx_map, h2], by simp only [eraseIdx_map, h3]⟩
theorem dropF_ok {l : List Rul} (ok : RulsOK l) {ns : List Int} {kind : Int} {ts : List ByteArray} : ∀ (m : Nat) (s : List Rul × List Int), Some l ns s → m ≤ s.1.length → contraS s.1 kind ts = true → (∀ j, m ≤ j → j < s.1.length → contraS (s.1.eraseIdx j) kind ts = false) →
    Some l ns (dropF kind ts m s) ∧ contraS (dropF kind ts m s).1 kind ts = true ∧ ∀ j, j < (dropF kind ts m s).1.length → contraS ((dropF kind ts m s).1.eraseIdx j) kind ts = false
  | 0, s, h1, h2, h3, h4 => ⟨h1, h3, fun j hj => h4 j (Nat.zero_le _) hj⟩
  | i + 1, s, h1, h2, h3, h4 => by
    simp only [dropF]
    cases hc : contraS (s.1.eraseIdx i) kind ts with
    | true =>
      rw [cond_true]
      refine dropF_ok ok i _ (h1.erase i) (by show i ≤ (s.1.eraseIdx i).length; rw [List.length_eraseIdx, if_pos (by omega)]; omega) hc fun j hj hjl => ?_
      have hjl' : j < s.1.length - 1 := by
        have : (s.1.eraseIdx i).length = s.1.length - 1 := by rw [List.length_eraseIdx, if_pos (by omega)]
        have h5 : j < (s.1.eraseIdx i).length := hjl
        omega
      cases hd : contraS ((s.1.eraseIdx i).eraseIdx j) kind ts with
      | false => rfl
      | true =>
        rw [erase_comm s.1 i j hj] at hd
        have := contraS_mono (ok.sub ((List.eraseIdx_sublist _ _).trans h1.rl)) (List.eraseIdx_sublist (s.1.eraseIdx (j + 1)) i) hd
        rw [h4 (j + 1) (by omega) (by omega)] at this
        cases this
    | false =>
      rw [cond_false]
      refine dropF_ok ok i s h1 (by omega) h3 fun j hj hjl => ?_
      rcases Nat.lt_or_ge i j with h | h
      · exact h4 j h hjl
      · have : j = i := by omega
        subst this; exact hc
theorem some_all (l : List Rul) (ns : List Int) (h : ns.length = l.length) : Some l ns (l, ns) := by
  refine ⟨List.Sublist.refl _, List.range l.length, List.pairwise_lt_range, ?_, ?_⟩
  · apply List.ext_getElem?
    intro i
    simp only [List.getElem?_map]
    by_cases hi : i < l.length
    · rw [List.getElem?_range hi]; simp [hi]
    · rw [List.getElem?_eq_none (by omega), List.getElem?_eq_none (by simp; omega)]; rfl
  · apply List.ext_getElem?
    intro i
    simp only [List.getElem?_map]
    by_cases hi : i < l.length
    · rw [List.getElem?_range hi]; simp [h, hi]
    · rw [List.getElem?_eq_none (by omega), List.getElem?_eq_none (by simp; omega)]; rfl
theorem kindF_zero {l : List Rul} {ts : List ByteArray} : ∀ (n : Nat) (k : Int), 1 ≤ k → kindF l ts n k = 0 → ∀ j, k ≤ j → j < k + n → contraS l j ts = false
  | 0, k, _, _, j, h1, h2 => by omega
  | n + 1, k, hk, h, j, h1, h2 => by
    simp only [kindF] at h
    cases hc : contraS l k ts with
    | true => rw [hc, cond_true] at h; omega
    | false =>
      rw [hc, cond_false] at h
      by_cases e : j = k
      · rw [e]; exact hc
      · exact kindF_zero n (k + 1) (by omega) h j (by omega) (by omega)
theorem kindS_zero {l : List Rul} (h : kindS l = 0) {j : Int} (h1 : 1 ≤ j) (h2 : j < 5 + (thingsS l).length) : contraS l j (thingsS l) = false := kindF_zero (4 + (thingsS l).length) 1 (by omega) h j h1 (by omega)
end Go.PM.Try

namespace Go.PM.Try
open Go.Proofs
attribute [local irreducible] eIf eReq eGet eNil slLen slRows slIdx slSub slZero slView eFind eLoopN CC Sl.enc
variable {R : Type} [Stops R] [CCW R] {n : Nat} {fr : Frames} {K : PV → Option LB → Frames → Option R} {r : R}
set_option maxRecDepth 8000
set_option linter.unusedSectionVars false

def okC (name : ByteArray) (n : Int) (c : Cnt) : Bool := !(eqB c.thing name && (decide (n < c.least) || decide (n > c.most)))
def okN (l : List Rul) (name : ByteArray) (n : Int) : Bool := l.all fun x => x.counts.l.all (okC name n)
theorem okN_of {l : List Rul} {name : ByteArray} (h : thingS name l = false) : ∃ n : Nat, n ≤ 1000 ∧ okN l name n = true := by
  simp only [thingS, overB, decide_eq_false_iff_not] at h
  have h1 := ((thingF_le name (thingF name l (0, 1000)).1 l (0, 1000)).1).1 (Int.le_refl _)
  have h2 := ((thingF_le name (thingF name l (0, 1000)).2 l (0, 1000)).2).1 (Int.le_refl _)
  have b1 : 0 ≤ (thingF name l (0, 1000)).1 := h1.1
  have b2 : (thingF name l (0, 1000)).2 ≤ 1000 := h2.1
  refine ⟨(thingF name l (0, 1000)).1.toNat, by omega, ?_⟩
  rw [show (((thingF name l (0, 1000)).1.toNat : Nat) : Int) = (thingF name l (0, 1000)).1 by omega]
  rw [okN, List.all_eq_true]
  intro x hx
  rw [List.all_eq_true]
  intro c hc
  unfold okC
  cases he : eqB c.thing name with
  | false => rfl
  | true =>
    have q1 := h1.2 x hx c hc he
    have q2 := h2.2 x hx c hc he
    rw [decide_eq_false (by omega), decide_eq_false (by omega)]; rfl
/-- No day of seven years and no minute speaks against all. -/
theorem days_of {l : List Rul} (ok : RulsOK l) (h1 : forbidS l = false) (h3 : (daysF l 127 == 0) = false) (h4 : (List.range 365).all (emptyN l) = false) {m : Int} (hm0 : 0 ≤ m) (hm : m < 1440) (hl : (l.all fun x => liesS m x.h0 x.h1) = true) : ∃ d : Nat, d < 2555 ∧ allS l (1440 * d + m) = true := by
  have hw : ∃ w, w < 7 ∧ ∀ x ∈ l, bitOf x.days w = true := by
    by_cases hx : ∀ w, w < 7 → ∃ x ∈ l, bitOf x.days w = false
    · rw [(daysF_zero fun x hx => ⟨(ok.t x hx).d0, (ok.t x hx).d1⟩).2 hx] at h3; cases h3
    · simp only [Classical.not_forall, not_exists, not_and] at hx
      obtain ⟨w, hw, hx⟩ := hx
      exact ⟨w, hw, fun x hx' => by simpa using hx x hx'⟩
  obtain ⟨w, hw, hbits⟩ := hw
  obtain ⟨d0, hd0, hd⟩ := List.all_eq_false.1 h4
  have hd0' : d0 < 365 := by simpa using hd0
  have hd' : emptyN l d0 = false := by simpa using hd
  have hseason : ∀ x ∈ l, liesS d0 x.s0 x.s1 = true := by
    have := not_emptyN l d0
    rw [hd'] at this
    exact List.all_eq_true.1 this
  -- a day of the week and of the year
  obtain ⟨j, hj⟩ : ∃ j, j = (w + 7 - d0 % 7) % 7 := ⟨_, rfl⟩
  refine ⟨d0 + 365 * j, by omega, ?_⟩
  rw [allS, List.all_eq_true]
  intro x hx
  have hdiv : (1440 * ((d0 + 365 * j : Nat) : Int) + m) / 1440 = ((d0 + 365 * j : Nat) : Int) := by omega
  have hmod : (1440 * ((d0 + 365 * j : Nat) : Int) + m) % 1440 = m := by omega
  unfold allowsS
  rw [hdiv, hmod, List.all_eq_true.1 hl x hx, Bool.and_true]
  unfold dayS
  have f : x.forbid = false := by
    have := List.any_eq_false.1 h1 x hx
    simpa using this
  have e7 : (((d0 + 365 * j : Nat) : Int) % 7).toNat = w := by omega
  have e365 : ((d0 + 365 * j : Nat) : Int) % 365 = (d0 : Int) := by omega
  rw [f, dayBit_eq (ok.t x hx).d0 (by omega), e7, hbits x hx, e365, hseason x hx]; rfl
set_option maxHeartbeats 4000000 in
set_option maxRecDepth 60000 in
theorem s27 {s : Sl Rul} (ok : RulsOK s.l) {things : Sl ByteArray} (hts : things.l.length < 1000000) (hR : ∀ x ∈ s.l, RulT x)
    (H1 : ∀ name ∈ things.l, ∃ n : Nat, n ≤ 1000 ∧ okN s.l name n = true) (H2 : ∃ m : Nat, m < 1440 ∧ (s.l.all fun x => liesS m x.h0 x.h1) = true)
    (H3 : ∀ m : Int, 0 ≤ m → m < 1440 → (s.l.all fun x => liesS m x.h0 x.h1) = true → ∃ d : Nat, d < 2555 ∧ allS s.l (1440 * d + m) = true) (h : K (bv true) none fr = some r) : (CC (n+6)).fn 27 [rv (s.enc 11 Rul.enc), rv (things.enc 1 encS)] fr K = some r := by
  have hs := ok.len
  refine cc q27_ok rfl ?_
  conv => lhs; whnf
  repeat' ((first | refine eIf_t ?_ | refine eIf_f ?_ | refine eGet_i rfl ?_ | refine eReq_i rfl ?_ | refine slLen_e ?_ | refine eIf_i (fun _ => ?_) (fun _ => ?_)) <;> (try (conv => lhs; whnf)))
  refine eLoop_l things.l (fun k => [(0, rv (s.enc 11 Rul.enc)), (1, rv (things.enc 1 encS)), (5, iv k)]) (fun _ => [] :: fr) (fun _ => True) (fun k name L hx hk _ hL => ?_) (fun L _ => ?_) _ (by omega) trivial
  · obtain ⟨n0, hn0, hok⟩ := H1 name (List.mem_of_getElem? hx)
    conv => lhs; whnf
    repeat' ((first | refine eIf_t ?_ | refine eIf_f ?_ | refine eGet_i rfl ?_ | refine eReq_i rfl ?_ | refine slLen_e ?_ | refine eIf_ct (lt_t hk) ?_ | refine eIf_i (fun _ => ?_) (fun _ => ?_)) <;> (try (conv => lhs; whnf)))
    refine eLoop_i (R := R) (σ := Nat × Bool) (fun z => [(0, rv (s.enc 11 Rul.enc)), (1, rv (things.enc 1 encS)), (5, iv k), (6, bv z.2), (7, iv z.1)]) (fun _ => [] :: fr) (fun z => z.2 = true ∨ z.1 ≤ n0) (fun z => 1002 - z.1 + (bif z.2 then 0 else 1)) (fun z L' hC hL' => ?_) _ (0, false) (.inr (Nat.zero_le _)) (by show 1002 - 0 + 1 < _; omega)
    obtain ⟨m, b⟩ := z
    simp only at hC hL'
    cases b with
    | true =>
      conv => lhs; whnf
      repeat' ((first | refine eIf_t ?_ | refine eIf_f ?_ | refine eGet_i rfl ?_ | refine eReq_i rfl ?_ | refine slLen_e ?_ | refine eIf_i (fun _ => ?_) (fun _ => ?_)) <;> (try (conv => lhs; whnf)))
      all_goals exact l_eq (hL trivial) (by rw [wrap_up (by omega)]) rfl
    | false =>
      have hmn : m ≤ n0 := by
        rcases hC with h | h
        · cases h
        · exact h
      conv => lhs; whnf
      repeat' ((first | refine eIf_t ?_ | refine eIf_f ?_ | refine eGet_i rfl ?_ | refine eReq_i rfl ?_ | refine slLen_e ?_ | refine eIf_ct (show decide ((m : Int) ≤ 1000) = true from decide_eq_true (by omega)) ?_ | refine eIf_i (fun _ => ?_) (fun _ => ?_)) <;> (try (conv => lhs; whnf)))
      refine eLoop_i (R := R) (σ := Nat × Bool) (fun z => [(0, rv (s.enc 11 Rul.enc)), (1, rv (things.enc 1 encS)), (5, iv k), (6, bv z.2), (7, iv m), (8, iv z.1)]) (fun _ => [] :: fr) (fun z => z.1 ≤ s.l.length ∧ z.2 = okN (s.l.take z.1) name m) (fun z => s.l.length - z.1) (fun z L'' hI hL'' => ?_) _ (0, true) ⟨Nat.zero_le _, by simp [okN]⟩ (by show _ - 0 < _; omega)
      obtain ⟨i, b⟩ := z
      obtain ⟨hi, hb⟩ := hI
      simp only at hi hb hL''
      rcases Nat.lt_or_ge i s.l.length with hil | hig
      · obtain ⟨y, hy⟩ : ∃ y, s.l[i]? = some y := ⟨_, List.getElem?_eq_getElem hil⟩
        have hyc := ok.c y (List.mem_of_getElem? hy)
        have hs2 : okN (s.l.take (i + 1)) name m = (okN (s.l.take i) name m && y.counts.l.all (okC name m)) := by rw [take_succ hy]; simp [okN]
        conv => lhs; whnf
        repeat' ((first | refine eIf_t ?_ | refine eIf_f ?_ | refine eGet_i rfl ?_ | refine eReq_i rfl ?_ | refine slLen_e ?_ | refine eIf_ct (lt_t hil) ?_ | refine eIf_i (fun _ => ?_) (fun _ => ?_)) <;> (try (conv => lhs; whnf)))
        refine eLoop_i (R := R) (σ := Nat × Bool) (fun z => [(0, rv (s.enc 11 Rul.enc)), (1, rv (things.enc 1 encS)), (5, iv k), (6, bv z.2), (7, iv m), (8, iv i), (9, iv z.1)]) (fun _ => [] :: fr) (fun z => z.1 ≤ y.counts.l.length ∧ z.2 = (okN (s.l.take i) name m && (y.counts.l.take z.1).all (okC name m))) (fun z => y.counts.l.length - z.1) (fun z L3 hJ hL3 => ?_) _ (0, b) ⟨Nat.zero_le _, by simp [hb]⟩ (by show _ - 0 < _; omega)
        obtain ⟨j, b2⟩ := z
        obtain ⟨hj, hb2⟩ := hJ
        simp only at hj hb2 hL3
        rcases Nat.lt_or_ge j y.counts.l.length with hjl | hjg
        · obtain ⟨c, hc⟩ : ∃ c, y.counts.l[j]? = some c := ⟨_, List.getElem?_eq_getElem hjl⟩
          have hs3 : (y.counts.l.take (j + 1)).all (okC name m) = ((y.counts.l.take j).all (okC name m) && okC name m c) := by rw [take_succ hc]; simp
          have hbad : okC name m c = false → L3 [(0, rv (s.enc 11 Rul.enc)), (1, rv (things.enc 1 encS)), (5, iv k), (6, bv false), (7, iv m), (8, iv i), (9, iv (IntKind.wrap .i64 ((j : Int) + 1)))] ([] :: fr) = some r := fun hq => by
            rw [wrap_up (by omega)]
            exact hL3 (j + 1, false) ⟨hjl, by show false = _; rw [hs3, hq]; simp⟩ (by show _ - (j + 1) < _; omega)
          have hgood : okC name m c = true → L3 [(0, rv (s.enc 11 Rul.enc)), (1, rv (things.enc 1 encS)), (5, iv k), (6, bv b2), (7, iv m), (8, iv i), (9, iv (IntKind.wrap .i64 ((j : Int) + 1)))] ([] :: fr) = some r := fun hq => by
            rw [wrap_up (by omega)]
            exact hL3 (j + 1, b2) ⟨hjl, by show b2 = _; rw [hs3, hq, hb2]; simp⟩ (by show _ - (j + 1) < _; omega)
          conv => lhs; whnf
          repeat' ((first | refine eIf_t ?_ | refine eIf_f ?_ | refine eGet_i rfl ?_ | refine eReq_i rfl ?_ | refine slLen_e ?_ | refine slIdx_e rfl (Int.natCast_nonneg _) hy ?_ | refine eIf_ct (lt_t hjl) ?_ | refine slIdx_e rfl (Int.natCast_nonneg _) hc ?_ | refine slIdx_e rfl (Int.natCast_nonneg _) hx ?_ | refine eIf_i (fun _ => ?_) (fun _ => ?_)) <;> (try (conv => lhs; whnf)))
          · rename_i g1 g2
            exact hbad (by unfold okC; rw [show eqB c.thing name = true from g1, g2]; rfl)
          · rename_i g1 g2 g3
            exact hbad (by unfold okC; rw [show eqB c.thing name = true from g1, g2, g3]; rfl)
          · rename_i g1 g2 g3
            exact hgood (by unfold okC; rw [show eqB c.thing name = true from g1, g2, g3]; rfl)
          · rename_i g1
            exact hgood (by unfold okC; rw [show eqB c.thing name = false from g1]; rfl)
        · have : j = y.counts.l.length := by omega
          subst this
          rw [List.take_length, ← hs2] at hb2
          conv => lhs; whnf
          repeat' ((first | refine eIf_t ?_ | refine eIf_f ?_ | refine eGet_i rfl ?_ | refine eReq_i rfl ?_ | refine slLen_e ?_ | refine slIdx_e rfl (Int.natCast_nonneg _) hy ?_ | refine eIf_cf lt_f ?_ | refine eIf_i (fun _ => ?_) (fun _ => ?_)) <;> (try (conv => lhs; whnf)))
          exact l_eq (hL'' (i + 1, b2) ⟨hil, hb2⟩ (by show _ - (i + 1) < _; omega)) (by rw [wrap_up (by omega)]) rfl
      · have : i = s.l.length := by omega
        subst this
        rw [List.take_length] at hb
        conv => lhs; whnf
        repeat' ((first | refine eIf_t ?_ | refine eIf_f ?_ | refine eGet_i rfl ?_ | refine eReq_i rfl ?_ | refine slLen_e ?_ | refine eIf_cf lt_f ?_ | refine eIf_i (fun _ => ?_) (fun _ => ?_)) <;> (try (conv => lhs; whnf)))
        refine l_eq (hL' (m + 1, b) ?_ ?_) (by rw [wrap_up (by omega)]) rfl
        · show b = true ∨ m + 1 ≤ n0
          cases b with
          | true => exact .inl rfl
          | false =>
            refine .inr ?_
            by_cases e : m = n0
            · rw [e, hok] at hb; cases hb
            · omega
        · show 1002 - (m + 1) + (bif b then 0 else 1) < 1002 - m + 1
          cases b <;> simp <;> omega
  · conv => lhs; whnf
    repeat' ((first | refine eIf_t ?_ | refine eIf_f ?_ | refine eGet_i rfl ?_ | refine eReq_i rfl ?_ | refine slLen_e ?_ | refine eIf_cf lt_f ?_ | refine eIf_i (fun _ => ?_) (fun _ => ?_)) <;> (try (conv => lhs; whnf)))
    obtain ⟨m0, hm0, hm1⟩ := H2
    refine eLoop_i (R := R) (σ := Nat × Int) (fun z => [(0, rv (s.enc 11 Rul.enc)), (11, iv z.2), (12, iv z.1)]) (fun _ => [] :: fr) (fun z => (z.2 = -1 ∧ z.1 ≤ m0) ∨ (0 ≤ z.2 ∧ z.2 < 1440 ∧ z.1 ≤ 1440 ∧ (s.l.all fun x => liesS z.2 x.h0 x.h1) = true)) (fun z => 1500 - z.1) (fun z L hC hL => ?_) _ (0, -1) (.inl ⟨rfl, Nat.zero_le _⟩) (by show 1500 - 0 < _; omega)
    obtain ⟨m, mi⟩ := z
    simp only at hC hL
    rcases hC with ⟨rfl, hmn⟩ | ⟨c1, c2, c3, c4⟩
    · conv => lhs; whnf
      repeat' ((first | refine eIf_t ?_ | refine eIf_f ?_ | refine eGet_i rfl ?_ | refine eReq_i rfl ?_ | refine slLen_e ?_ | refine eIf_ct (show decide ((m : Int) < 1440) = true from decide_eq_true (by omega)) ?_ | refine eIf_i (fun _ => ?_) (fun _ => ?_)) <;> (try (conv => lhs; whnf)))
      refine eLoop_i (R := R) (σ := Nat × Int) (fun z => [(0, rv (s.enc 11 Rul.enc)), (11, iv z.2), (12, iv m), (13, iv z.1)]) (fun _ => [] :: fr) (fun z => z.1 ≤ s.l.length ∧ z.2 = bif (s.l.take z.1).all fun x => liesS m x.h0 x.h1 then (m : Int) else -1) (fun z => s.l.length - z.1) (fun z L' hI hL' => ?_) _ (0, (m : Int)) ⟨Nat.zero_le _, by simp⟩ (by show _ - 0 < _; omega)
      obtain ⟨i, mi⟩ := z
      obtain ⟨hi, hmi⟩ := hI
      simp only at hi hmi hL'
      rcases Nat.lt_or_ge i s.l.length with hil | hig
      · obtain ⟨y, hy⟩ : ∃ y, s.l[i]? = some y := ⟨_, List.getElem?_eq_getElem hil⟩
        have hs2 : ((s.l.take (i + 1)).all fun x => liesS m x.h0 x.h1) = (((s.l.take i).all fun x => liesS m x.h0 x.h1) && liesS m y.h0 y.h1) := by rw [take_succ hy]; simp
        conv => lhs; whnf
        repeat' ((first | refine eIf_t ?_ | refine eIf_f ?_ | refine eGet_i rfl ?_ | refine eReq_i rfl ?_ | refine slLen_e ?_ | refine eIf_ct (lt_t hil) ?_ | refine slIdx_e rfl (Int.natCast_nonneg _) hy ?_ | refine s68 ?_ | refine eIf_i (fun _ => ?_) (fun _ => ?_)) <;> (try (conv => lhs; whnf)))
        · rename_i g
          exact l_eq (hL' (i + 1, -1) ⟨hil, by show -1 = _; rw [hs2, nT g, Bool.and_false]; rfl⟩ (by show _ - (i + 1) < _; omega)) (by rw [wrap_up (by omega)]) rfl
        · rename_i g
          exact l_eq (hL' (i + 1, mi) ⟨hil, by show mi = _; rw [hs2, nF g, Bool.and_true]; exact hmi⟩ (by show _ - (i + 1) < _; omega)) (by rw [wrap_up (by omega)]) rfl
      · have : i = s.l.length := by omega
        subst this
        rw [List.take_length] at hmi
        conv => lhs; whnf
        repeat' ((first | refine eIf_t ?_ | refine eIf_f ?_ | refine eGet_i rfl ?_ | refine eReq_i rfl ?_ | refine slLen_e ?_ | refine eIf_cf lt_f ?_ | refine eIf_i (fun _ => ?_) (fun _ => ?_)) <;> (try (conv => lhs; whnf)))
        refine l_eq (hL (m + 1, mi) ?_ (by show 1500 - (m + 1) < 1500 - m; omega)) (by rw [wrap_up (by omega)]) rfl
        cases ha : s.l.all fun x => liesS m x.h0 x.h1 with
        | true =>
          rw [ha, cond_true] at hmi
          exact .inr ⟨by show 0 ≤ mi; omega, by show mi < 1440; omega, by show m + 1 ≤ 1440; omega, by show (s.l.all fun x => liesS mi x.h0 x.h1) = true; rw [hmi]; exact ha⟩
        | false =>
          rw [ha, cond_false] at hmi
          refine .inl ⟨hmi, ?_⟩
          show m + 1 ≤ m0
          by_cases e : m = m0
          · rw [e, hm1] at ha; cases ha
          · omega
    · obtain ⟨d0, hd0, hd1⟩ := H3 mi c1 c2 c4
      conv => lhs; whnf
      repeat' ((first | refine eIf_t ?_ | refine eIf_f ?_ | refine eGet_i rfl ?_ | refine eReq_i rfl ?_ | refine slLen_e ?_ | refine eIf_cf (show decide (mi < 0) = false from decide_eq_false (by omega)) ?_ | refine eIf_i (fun _ => ?_) (fun _ => ?_)) <;> (try (conv => lhs; whnf)))
      refine eLoop_i (R := R) (σ := Nat) (fun d => [(0, rv (s.enc 11 Rul.enc)), (11, iv mi), (14, iv d)]) (fun _ => [] :: fr) (fun d => d ≤ d0) (fun d => 2600 - d) (fun d L hC hL => ?_) _ 0 (Nat.zero_le _) (by show 2600 - 0 < _; omega)
      have hw : IntKind.wrap .i64 (IntKind.wrap .i64 (1440 * (d : Int)) + mi) = 1440 * (d : Int) + mi := by rw [wrap_id (x := 1440 * (d : Int)) (by omega) (by omega), wrap_id (by omega) (by omega)]
      conv => lhs; whnf
      repeat' ((first | refine eIf_t ?_ | refine eIf_f ?_ | refine eGet_i rfl ?_ | refine eReq_i rfl ?_ | refine slLen_e ?_ | refine eIf_ct (show decide ((d : Int) < 2555) = true from decide_eq_true (by omega)) ?_ | refine eIf_ct (show decide (mi ≥ 0) = true from decide_eq_true c1) ?_ | refine s24 (by omega) hR (by rw [hw]; omega) (by omega) (by omega) (by rw [hw]; omega) ?_ | refine eIf_i (fun _ => ?_) (fun _ => ?_)) <;> (try (conv => lhs; whnf)))
      · exact h
      · rename_i g
        refine l_eq (hL (d + 1) ?_ (by show 2600 - (d + 1) < 2600 - d; omega)) (by rw [wrap_up (by omega)]) rfl
        by_cases e : d = d0
        · exfalso
          rw [hw] at g
          have : freeS s.l (1440 * (d : Int) + mi) 1 = true := by rw [freeS_iff]; intro t t1 t2; rw [show t = 1440 * (d0 : Int) + mi by omega]; exact hd1
          rw [show (1 : Int).toNat = 1 from rfl, this] at g; cases g
        · show d + 1 ≤ d0
          omega
      refine eLoop_i (R := R) (σ := Nat) (fun d => [(0, rv (s.enc 11 Rul.enc)), (11, iv mi), (14, iv d)]) (fun _ => [] :: fr) (fun d => d ≤ d0) (fun d => 2600 - d) (fun d L hC hL => ?_) _ 0 (Nat.zero_le _) (by show 2600 - 0 < _; omega)
      have hw : IntKind.wrap .i64 (IntKind.wrap .i64 (1440 * (d : Int)) + mi) = 1440 * (d : Int) + mi := by rw [wrap_id (x := 1440 * (d : Int)) (by omega) (by omega), wrap_id (by omega) (by omega)]
      conv => lhs; whnf
      repeat' ((first | refine eIf_t ?_ | refine eIf_f ?_ | refine eGet_i rfl ?_ | refine eReq_i rfl ?_ | refine slLen_e ?_ | refine eIf_ct (show decide ((d : Int) < 2555) = true from decide_eq_true (by omega)) ?_ | refine eIf_ct (show decide (mi ≥ 0) = true from decide_eq_true c1) ?_ | refine s24 (by omega) hR (by rw [hw]; omega) (by omega) (by omega) (by rw [hw]; omega) ?_ | refine eIf_i (fun _ => ?_) (fun _ => ?_)) <;> (try (conv => lhs; whnf)))
      · exact h
      · rename_i g
        refine l_eq (hL (d + 1) ?_ (by show 2600 - (d + 1) < 2600 - d; omega)) (by rw [wrap_up (by omega)]) rfl
        by_cases e : d = d0
        · exfalso
          rw [hw] at g
          have : freeS s.l (1440 * (d : Int) + mi) 1 = true := by rw [freeS_iff]; intro t t1 t2; rw [show t = 1440 * (d0 : Int) + mi by omega]; exact hd1
          rw [show (1 : Int).toNat = 1 from rfl, this] at g; cases g
        · show d + 1 ≤ d0
          omega
end Go.PM.Try

namespace Go.PM.Try
open Go.Proofs
attribute [local irreducible] eIf eReq eGet eNil slLen slRows slIdx slSub slZero slView eFind eLoopN CC Sl.enc
variable {R : Type} [Stops R] [CCW R] {n : Nat} {fr : Frames} {K : PV → Option LB → Frames → Option R} {r : R}
set_option maxRecDepth 8000
set_option linter.unusedSectionVars false

theorem numsR_get {n0 m j : Nat} (h : j < m) : (numsR n0 m)[j]? = some ((n0 + j : Nat) : Int) := by
  unfold numsR
  rw [List.getElem?_map, List.getElem?_range h]; rfl
theorem numsR_len (n0 m : Nat) : (numsR n0 m).length = m := by simp [numsR]
theorem s28t {l : List Rul} (ok : RulsOK l) {things : Sl ByteArray} (ht : things.l.length < 1000000) {kind : Int} (h1 : 1 ≤ kind) (h2 : kind < 5 + things.l.length) (h : K (bv (contraS l kind things.l)) none fr = some r) : (CC (n+2)).fn 28 [rv (sealT 11 (l.map Rul.enc)), iv kind, rv (things.enc 1 encS)] fr K = some r := by
  rw [seal_enc]
  exact s28 (s := ⟨0, l⟩) ok ht h1 h2 h
theorem s28r {l : List Rul} {rows : List (List RV)} (hr : rows = l.map Rul.enc) (ok : RulsOK l) {things : Sl ByteArray} (ht : things.l.length < 1000000) {kind : Int} (h1 : 1 ≤ kind) (h2 : kind < 5 + things.l.length) (h : K (bv (contraS l kind things.l)) none fr = some r) : (CC (n+2)).fn 28 [rv (sealT 11 rows), iv kind, rv (things.enc 1 encS)] fr K = some r := by
  rw [hr]
  exact s28t ok ht h1 h2 h
theorem s28n {l : List Rul} (hl : l = []) (ok : RulsOK l) {things : Sl ByteArray} (ht : things.l.length < 1000000) {kind : Int} (h1 : 1 ≤ kind) (h2 : kind < 5 + things.l.length) (h : K (bv (contraS l kind things.l)) none fr = some r) : (CC (n+2)).fn 28 [rv .esl, iv kind, rv (things.enc 1 encS)] fr K = some r := by
  rw [esl_enc 11 Rul.enc, ← hl]
  exact s28 (s := ⟨1, l⟩) ok ht h1 h2 h
theorem ruls_at {l : List Aut} {t : Trp} {p : Int} {q : Pas} (h : At l t p q) : RulsOK (ownR l t.sizes q) :=
  ruls_ok (x := ownRls l t.sizes 0 q) ⟨h.len, h.rules, h.m0, h.m1⟩
/-- What Conflict answers for a passage that is there. -/
theorem confl_at {l : List Aut} {t : Trp} {p : Int} (h : findE l t p = 0) : ∃ q, At l t p q ∧ conflR l t p = conflS (ownRls l t.sizes (firstN l t p.toNat) q) := by
  obtain ⟨q, hat, hd⟩ := At.of h
  refine ⟨q, hat, ?_⟩
  have b0 : (findE l t p == 0) = true := by simpa using h
  simp only [conflR, b0, cond_true, hd]
theorem contraS_nil {k : Int} {ts : List ByteArray} : contraS [] k ts = false := by
  unfold contraS
  cases k == 1 with
  | true => rfl
  | false =>
    cases k == 2 with
    | true => simp only [cond_true, cond_false]; exact emptyH_nil 1440 (by omega)
    | false =>
      cases k == 3 with
      | true => rfl
      | false =>
        cases k == 4 with
        | true => simp only [cond_true, cond_false]; exact emptyN_nil 365 (by omega)
        | false => rfl
theorem s23o {s : Sl Aut} {t : Trp} {p : Int} {q : Pas} (hat : At s.l t p q) {own : List Rul} {n0 : Nat} (ho : ownR s.l t.sizes q = own) (hn : firstN s.l t p.toNat = n0) (h : K (rv (.tup [Sl.enc 1 encI ⟨0, numsR n0 own.length⟩, Sl.enc 11 Rul.enc ⟨0, own⟩])) none fr = some r) : (CC (n+4)).fn 23 [rv (s.enc 4 Aut.enc), gv t.enc, iv p] fr K = some r := by
  refine s23 hat.hb ?_
  rw [hat.own, ho, hn]
  exact h
theorem s25k {s : Sl Aut} {t : Trp} {p : Int} (he : findE s.l t p = 0) {kind : Int} {C : Sl Int} (hc : conflR s.l t p = (kind, C)) (h : K (rv (.tup [.int .i64 kind, C.enc 1 encI, .int .i64 0])) none fr = some r) : (CC (n+19)).fn 25 [rv (s.enc 4 Aut.enc), gv t.enc, iv p] fr K = some r := by
  refine s25 ?_
  rw [hc, he]
  exact h
set_option maxHeartbeats 4000000 in
theorem s5 {s : Sl Aut} {t : Trp} {p : Int} (h : K (bv true) none fr = some r) : (CC (n+21)).fn 5 [rv (s.enc 4 Aut.enc), gv t.enc, iv p] fr K = some r := by
  refine cc q5_ok rfl ?_
  by_cases he : findE s.l t p = 0
  · obtain ⟨q, hat, hcf⟩ := confl_at he
    have b0 : (findE s.l t p != 0) = false := by simpa using he
    have c4 : (!(beginS s.l t == 0)) = false := by rw [hat.hb]; rfl
    have rok := ruls_at hat
    have e1 : (ofS s.l t p).1 = numsR (firstN s.l t p.toNat) (ownR s.l t.sizes q).length := by rw [hat.own]
    have e2 : (ofS s.l t p).2 = ownR s.l t.sizes q := by rw [hat.own]
    by_cases hk : kindS (ownR s.l t.sizes q) = 0
    · have hcf' : conflR s.l t p = (0, ⟨0, []⟩) := by
        rw [hcf]
        unfold conflS
        rw [show (kindS (ownRls s.l t.sizes (firstN s.l t p.toNat) q).list.l == 0) = true from (by show (kindS (ownR s.l t.sizes q) == 0) = true; simpa using hk)]
        rfl
      have k0 : ((conflR s.l t p).1 == 0) = true := by rw [hcf']; rfl
      have k1 : (((conflR s.l t p).2.l.length : Int) == 0) = true := by rw [hcf']; rfl
      have hts := thingsS_len rok
      have z1 := kindS_zero hk (j := 1) (by omega) (by omega)
      have z2 := kindS_zero hk (j := 2) (by omega) (by omega)
      have z3 := kindS_zero hk (j := 3) (by omega) (by omega)
      have z4 := kindS_zero hk (j := 4) (by omega) (by omega)
      have H1 : ∀ name ∈ thingsS (ofS s.l t p).2, ∃ n : Nat, n ≤ 1000 ∧ okN (ofS s.l t p).2 name n = true := by
        rw [e2]
        intro name hn
        obtain ⟨i, hi⟩ := List.getElem?_of_mem hn
        have hil : i < (thingsS (ownR s.l t.sizes q)).length := (List.getElem?_eq_some_iff.1 hi).1
        have z := kindS_zero hk (j := 5 + i) (by omega) (by omega)
        have n1 : ((5 + (i : Int)) == 1) = false := by simp; omega
        have n2 : ((5 + (i : Int)) == 2) = false := by simp; omega
        have n3 : ((5 + (i : Int)) == 3) = false := by simp; omega
        have n4 : ((5 + (i : Int)) == 4) = false := by simp; omega
        unfold contraS at z
        rw [n1, n2, n3, n4] at z
        simp only [cond_false, show (5 + (i : Int) - 5).toNat = i by omega] at z
        rw [List.getD_eq_getElem?_getD, hi] at z
        exact okN_of z
      have H2 : ∃ m : Nat, m < 1440 ∧ ((ofS s.l t p).2.all fun x => liesS m x.h0 x.h1) = true := by
        rw [e2]
        obtain ⟨m, hm, hq⟩ := List.all_eq_false.1 (show (List.range 1440).all (emptyH (ownR s.l t.sizes q)) = false from z2)
        refine ⟨m, by simpa using hm, ?_⟩
        have := not_emptyH (ownR s.l t.sizes q) m
        rw [show emptyH (ownR s.l t.sizes q) m = false by simpa using hq] at this
        exact this
      have H3 : ∀ m : Int, 0 ≤ m → m < 1440 → ((ofS s.l t p).2.all fun x => liesS m x.h0 x.h1) = true → ∃ d : Nat, d < 2555 ∧ allS (ofS s.l t p).2 (1440 * d + m) = true := by
        rw [e2]
        exact fun m m0 m1 hl => days_of rok z1 z3 z4 m0 m1 hl
      conv => lhs; whnf
      repeat' ((first | refine eIf_t ?_ | refine eIf_f ?_ | refine eGet_i rfl ?_ | refine eReq_i rfl ?_ | refine slLen_e ?_ | refine s12 (fun b => ?_) | refine s13 ?_ | refine s25 ?_ | refine eIf_cf b0 ?_ | refine s22 ?_ | refine eIf_cf c4 ?_ | refine s23 hat.hb ?_ | refine s26 (s := ⟨0, (ofS s.l t p).2⟩) (by rw [e2]; exact rok.len) (by rw [e2]; exact rok.c) ?_ | refine eIf_ct k0 ?_ | refine eIf_ct k1 ?_ | refine s27 (s := ⟨0, (ofS s.l t p).2⟩) (things := ⟨0, thingsS (ofS s.l t p).2⟩) (by rw [e2]; exact rok) (by rw [e2]; exact hts) (by rw [e2]; exact rok.t) H1 H2 H3 ?_ | refine eIf_i (fun _ => ?_) (fun _ => ?_)) <;> (try (conv => lhs; whnf)))
      all_goals exact h
    · obtain ⟨own, ho⟩ : ∃ own, ownR s.l t.sizes q = own := ⟨_, rfl⟩
      obtain ⟨n0, hn0⟩ : ∃ n0, firstN s.l t p.toNat = n0 := ⟨_, rfl⟩
      rw [ho] at hk rok
      obtain ⟨kind, hkd⟩ : ∃ kind, kindS own = kind := ⟨_, rfl⟩
      obtain ⟨k1, k2, k3⟩ := kindS_range hk
      have hts := thingsS_len rok
      rw [hkd] at k1 k2 k3 hk
      obtain ⟨D, hD⟩ : ∃ D, dropF kind (thingsS own) own.length (own, numsR n0 own.length) = D := ⟨_, rfl⟩
      obtain ⟨d1, d2, d3⟩ := dropF_ok rok (ns := numsR n0 own.length) own.length (own, numsR n0 own.length) (some_all _ _ (numsR_len _ _)) (Nat.le_refl _) k3 (fun j h1 h2 => by
        have h2' : j < own.length := h2
        omega)
      rw [hD] at d1 d2 d3
      have hcf' : conflR s.l t p = (kind, ⟨2, D.2⟩) := by
        rw [hcf]
        unfold conflS
        have hkf : (kindS (ownRls s.l t.sizes (firstN s.l t p.toNat) q).list.l == 0) = false := by
          show (kindS (ownR s.l t.sizes q) == 0) = false
          rw [ho, hkd]; simpa using hk
        rw [hkf, cond_false]
        show (kindS (ownR s.l t.sizes q), (⟨2, (dropF (kindS (ownR s.l t.sizes q)) (thingsS (ownR s.l t.sizes q)) (ownR s.l t.sizes q).length (ownR s.l t.sizes q, numsR (firstN s.l t p.toNat) (ownR s.l t.sizes q).length)).2⟩ : Sl Int)) = _
        rw [ho, hn0, hkd, hD]
      clear hD hcf
      obtain ⟨S, C⟩ := D
      simp only at hcf' d1 d2 d3
      obtain ⟨ix, x1, x2, x3⟩ := d1.ex
      simp only at x2 x3
      have l1 : S.length = ix.length := by have := congrArg List.length x2; simpa using this
      have l2 : C.length = ix.length := by have := congrArg List.length x3; simpa using this
      have sok := rok.sub d1.rl
      have hSl : S.length < 100 := sok.len
      have hS0 : 0 < S.length := by
        rcases Nat.eq_zero_or_pos S.length with h0 | h0
        · rw [List.eq_nil_of_length_eq_zero h0, contraS_nil] at d2; cases d2
        · exact h0
      have hix : ∀ i j : Nat, ix[i]? = some j → S[i]? = own[j]? ∧ C[i]? = (numsR n0 own.length)[j]? ∧ j < own.length := fun i j hij => by
        have a1 := congrArg (·[i]?) x2
        have a2 := congrArg (·[i]?) x3
        simp only [List.getElem?_map, hij, Option.map_some] at a1 a2
        obtain ⟨y, hy⟩ : ∃ y, S[i]? = some y := ⟨_, List.getElem?_eq_getElem (by rw [l1]; exact (List.getElem?_eq_some_iff.1 hij).1)⟩
        obtain ⟨c, hc⟩ : ∃ c, C[i]? = some c := ⟨_, List.getElem?_eq_getElem (by rw [l2]; exact (List.getElem?_eq_some_iff.1 hij).1)⟩
        rw [hy] at a1
        rw [hc] at a2
        simp only [Option.map_some, Option.some.injEq] at a1 a2
        exact ⟨by rw [hy, a1], by rw [hc, a2], (List.getElem?_eq_some_iff.1 a1.symm).1⟩
      have f1 : (kind == 0) = false := by simpa using hk
      have f2 : decide (kind < 0) = false := decide_eq_false (by omega)
      have hw5 : IntKind.i64.wrap (5 + ((thingsS own).length : Int)) = 5 + (thingsS own).length := wrap_id (by omega) (by omega)
      have f3 : decide (kind ≥ IntKind.i64.wrap (5 + ((thingsS own).length : Int))) = false := decide_eq_false (by rw [hw5]; omega)
      have f4 : ((C.length : Int) == 0) = false := by rw [beq_eq_false_iff_ne]; omega
      clear k3
      conv => lhs; whnf
      repeat' ((first | refine eIf_t ?_ | refine eIf_f ?_ | refine eGet_i rfl ?_ | refine eReq_i rfl ?_ | refine slLen_e ?_ | refine s12 (fun b => ?_) | refine s13 ?_ | refine s25k he hcf' ?_ | refine s22 ?_ | refine eIf_cf c4 ?_ | refine s23o hat ho hn0 ?_ | refine s26 (s := ⟨0, own⟩) rok.len rok.c ?_ | refine eIf_cf f1 ?_ | refine eIf_cf f2 ?_ | refine eIf_cf f3 ?_ | refine eIf_cf f4 ?_ | refine eIf_i (fun _ => ?_) (fun _ => ?_)) <;> (try (conv => lhs; whnf)))
      · exact h
      refine eLoop_i (R := R) (σ := Nat × Nat) (fun z => [(7, iv kind), (8, rv (Sl.enc 1 encI ⟨2, C⟩)), (10, rv (Sl.enc 1 encI ⟨0, numsR n0 own.length⟩)), (11, rv (Sl.enc 11 Rul.enc ⟨0, own⟩)), (12, rv (Sl.enc 1 encS ⟨0, thingsS own⟩)), (13, .s (.tsl 11 ((S.take z.1).map Rul.enc) 0 0)), (14, iv z.2), (15, iv z.1)]) (fun z => [.tok 11 (S.take z.1).length] :: fr)
        (fun z => z.1 ≤ ix.length ∧ z.2 ≤ own.length ∧ ∀ j, ix[z.1]? = some j → z.2 ≤ j) (fun z => ix.length - z.1) (fun z L hC hL => ?_) _ (0, 0) ⟨Nat.zero_le _, Nat.zero_le _, fun j _ => Nat.zero_le _⟩ (by show ix.length - 0 < _; omega)
      obtain ⟨i, at_⟩ := z
      obtain ⟨hi, ha, hnext⟩ := hC
      simp only at hi ha hnext hL
      rcases Nat.lt_or_ge i ix.length with hil | hig
      · obtain ⟨j, hij⟩ : ∃ j, ix[i]? = some j := ⟨_, List.getElem?_eq_getElem hil⟩
        obtain ⟨g1, g2, g3⟩ := hix i j hij
        have hj0 := hnext j hij
        obtain ⟨y, hy⟩ : ∃ y, own[j]? = some y := ⟨_, List.getElem?_eq_getElem g3⟩
        have hCi : C[i]? = some ((n0 + j : Nat) : Int) := by rw [g2, numsR_get g3]
        have hSi : S[i]? = some y := by rw [g1, hy]
        conv => lhs; whnf
        repeat' ((first | refine eIf_t ?_ | refine eIf_f ?_ | refine eGet_i rfl ?_ | refine eReq_i rfl ?_ | refine slLen_e ?_ | refine eIf_ct (lt_t (show i < C.length by omega)) ?_ | refine eIf_i (fun _ => ?_) (fun _ => ?_)) <;> (try (conv => lhs; whnf)))
        refine eLoop_i (R := R) (σ := Nat) (fun a => [(7, iv kind), (8, rv (Sl.enc 1 encI ⟨2, C⟩)), (10, rv (Sl.enc 1 encI ⟨0, numsR n0 own.length⟩)), (11, rv (Sl.enc 11 Rul.enc ⟨0, own⟩)), (12, rv (Sl.enc 1 encS ⟨0, thingsS own⟩)), (13, .s (.tsl 11 ((S.take i).map Rul.enc) 0 0)), (14, iv a), (15, iv i)]) (fun _ => [.tok 11 (S.take i).length] :: fr) (fun a => a ≤ j) (fun a => j - a) (fun a L' hC' hL' => ?_) _ at_ hj0 (by show j - at_ < _; have := rok.len; omega)
        have hal : a < own.length := by omega
        have hown := rok.len
        rcases Nat.lt_or_ge a j with haj | haj
        · conv => lhs; whnf
          repeat' ((first | refine eIf_t ?_ | refine eIf_f ?_ | refine eGet_i rfl ?_ | refine eReq_i rfl ?_ | refine slLen_e ?_ | refine eIf_ct (show decide ((a : Int) < ((numsR n0 own.length).length : Int)) = true from decide_eq_true (by rw [numsR_len]; omega)) ?_ | refine slIdx_e rfl (Int.natCast_nonneg _) (numsR_get hal) ?_ | refine slIdx_e rfl (Int.natCast_nonneg _) hCi ?_ | refine eIf_ct (show (((n0 + a : Nat) : Int) != ((n0 + j : Nat) : Int)) = true by rw [bne_iff_ne]; omega) ?_ | refine eIf_i (fun _ => ?_) (fun _ => ?_)) <;> (try (conv => lhs; whnf)))
          exact l_eq (hL' (a + 1) (by omega) (by omega)) (by rw [wrap_up (by omega)]) rfl
        · have : a = j := by omega
          subst this
          have hlen : (S.take i).length = i := by rw [List.length_take]; omega
          conv => lhs; whnf
          repeat' ((first | refine eIf_t ?_ | refine eIf_f ?_ | refine eGet_i rfl ?_ | refine eReq_i rfl ?_ | refine slLen_e ?_ | refine eIf_ct (show decide ((a : Int) < ((numsR n0 own.length).length : Int)) = true from decide_eq_true (by rw [numsR_len]; omega)) ?_ | refine slIdx_e rfl (Int.natCast_nonneg _) (numsR_get hal) ?_ | refine slIdx_e rfl (Int.natCast_nonneg _) hCi ?_ | refine eIf_cf (show (((n0 + a : Nat) : Int) != ((n0 + a : Nat) : Int)) = false by simp) ?_ | refine eIf_cf (show ((a : Int) == ((numsR n0 own.length).length : Int)) = false by rw [numsR_len, beq_eq_false_iff_ne]; omega) ?_ | refine slIdx_e rfl (Int.natCast_nonneg _) hy ?_ | refine slRows_v ?_ | refine eNil_c rfl ?_ | refine eReq_i (by simp [Nat.ble_eq]; omega) ?_ | refine eIf_i (fun _ => ?_) (fun _ => ?_)) <;> (try (conv => lhs; whnf)))
          refine l_eq (hL (i + 1, a + 1) ⟨hil, by show a + 1 ≤ own.length; omega, fun j' hj' => ?_⟩ (by show ix.length - (i + 1) < _; omega)) (by rw [wrap_up (by omega), wrap_up (by omega), take_succ hSi]; simp) (by rw [take_succ hSi]; simp)
          have q1 := List.pairwise_iff_getElem.1 x1 i (i + 1) hil (List.getElem?_eq_some_iff.1 hj').1 (by omega)
          rw [(List.getElem?_eq_some_iff.1 hij).2, (List.getElem?_eq_some_iff.1 hj').2] at q1
          exact q1
      · have : i = ix.length := by omega
        subst this
        rw [List.take_of_length_le (by omega)]
        have d2' : (!(contraS S kind (thingsS own))) = false := by rw [d2]; rfl
        conv => lhs; whnf
        repeat' ((first | refine eIf_t ?_ | refine eIf_f ?_ | refine eGet_i rfl ?_ | refine eReq_i rfl ?_ | refine slLen_e ?_ | refine eIf_cf (show decide ((ix.length : Int) < (C.length : Int)) = false from decide_eq_false (by omega)) ?_ | refine s28t (things := ⟨0, thingsS own⟩) sok hts k1 k2 ?_ | refine eIf_cf d2' ?_ | refine eIf_i (fun _ => ?_) (fun _ => ?_)) <;> (try (conv => lhs; whnf)))
        have hSne : S.map Rul.enc ≠ [] := by simp; intro e; rw [e] at hS0; simp at hS0
        refine eLoop_l S (fun i => [(7, iv kind), (12, rv (Sl.enc 1 encS ⟨0, thingsS own⟩)), (13, .s (.tsl 11 (S.map Rul.enc) 0 0)), (16, iv i)]) (fun _ => [.tok 11 S.length] :: fr) (fun _ => True) (fun i y L hy hi _ hL => ?_) (fun L _ => ?_) _ (by omega) trivial
        · have d3' : (contraS (S.eraseIdx i) kind (thingsS own)) = false := d3 i hi
          have hwi : IntKind.wrap .i64 ((i : Int) + 1) = ((i + 1 : Nat) : Int) := wrap_up (by omega)
          have hlt : decide ((i : Int) < ((S.map Rul.enc).length : Int)) = true := by rw [List.length_map]; exact lt_t hi
          have hwz : (IntKind.wrap .i64 ((i : Int) + 1)).toNat = i + 1 := by rw [hwi]; omega
          have hwn : 0 ≤ IntKind.wrap .i64 ((i : Int) + 1) ∧ IntKind.wrap .i64 ((i : Int) + 1) ≤ (S.length : Int) := by rw [hwi]; omega
          have sok2 : RulsOK (S.eraseIdx i) := sok.erase i
          have hnext : L [(7, iv kind), (12, rv (Sl.enc 1 encS ⟨0, thingsS own⟩)), (13, .s (.tsl 11 (S.map Rul.enc) 0 0)), (16, iv (IntKind.wrap .i64 ((i : Int) + 1)))] ([.tok 11 S.length] :: fr) = some r := by
            rw [hwi]; exact hL trivial
          by_cases h0 : i = 0
          · by_cases h1 : S.length = 1
            · have hE : S.eraseIdx i = [] := List.eq_nil_of_length_eq_zero (by rw [List.length_eraseIdx, if_pos hi]; omega)
              conv => lhs; whnf
              repeat' ((first | refine eIf_t ?_ | refine eIf_f ?_ | refine eGet_i rfl ?_ | refine eReq_i rfl ?_ | refine slLen_e ?_ | refine eIf_ct hlt ?_ | refine eReq_i (by simp; omega) ?_ | refine eNil_ne hSne ?_ | refine slRows_v ?_ | refine eNil_n (by apply List.eq_nil_of_length_eq_zero; simp only [List.length_drop, List.length_take, List.length_map]; omega) ?_ | refine s28n (l := S.eraseIdx i) hE sok2 (things := ⟨0, thingsS own⟩) hts k1 k2 ?_ | refine eIf_cf d3' ?_ | refine eIf_i (fun _ => ?_) (fun _ => ?_)) <;> (try (conv => lhs; whnf)))
              exact hnext
            · conv => lhs; whnf
              repeat' ((first | refine eIf_t ?_ | refine eIf_f ?_ | refine eGet_i rfl ?_ | refine eReq_i rfl ?_ | refine slLen_e ?_ | refine eIf_ct hlt ?_ | refine eReq_i (by simp; omega) ?_ | refine eNil_ne hSne ?_ | refine slRows_v ?_ | refine eNil_n (by apply List.eq_nil_of_length_eq_zero; simp only [List.length_drop, List.length_take, List.length_map]; omega) ?_ | refine eNil_ne (by intro e; have e2 := congrArg List.length e; simp only [List.length_drop, List.length_take, List.length_map, List.length_nil] at e2; omega) ?_ | refine eReq_i (by simp [Nat.ble_eq]; omega) ?_ | refine s28r (l := S.eraseIdx i) (by rw [List.eraseIdx_eq_take_drop_succ, hwz]; simp [h0, List.take_of_length_le]) sok2 (things := ⟨0, thingsS own⟩) hts k1 k2 ?_ | refine eIf_cf d3' ?_ | refine eIf_i (fun _ => ?_) (fun _ => ?_)) <;> (try (conv => lhs; whnf)))
              all_goals exact hnext
          · by_cases h1 : i + 1 = S.length
            · conv => lhs; whnf
              repeat' ((first | refine eIf_t ?_ | refine eIf_f ?_ | refine eGet_i rfl ?_ | refine eReq_i rfl ?_ | refine slLen_e ?_ | refine eIf_ct hlt ?_ | refine eReq_i (by simp; omega) ?_ | refine eNil_ne hSne ?_ | refine slRows_v ?_ | refine eNil_n (by apply List.eq_nil_of_length_eq_zero; simp only [List.length_drop, List.length_take, List.length_map]; omega) ?_ | refine eNil_ne (by intro e; have e2 := congrArg List.length e; simp only [List.length_drop, List.length_take, List.length_map, List.length_nil] at e2; omega) ?_ | refine eReq_i (by simp [Nat.ble_eq]; omega) ?_ | refine s28r (l := S.eraseIdx i) (by rw [List.eraseIdx_eq_take_drop_succ]; simp [h1, List.take_of_length_le]) sok2 (things := ⟨0, thingsS own⟩) hts k1 k2 ?_ | refine eIf_cf d3' ?_ | refine eIf_i (fun _ => ?_) (fun _ => ?_)) <;> (try (conv => lhs; whnf)))
              all_goals exact hnext
            · conv => lhs; whnf
              repeat' ((first | refine eIf_t ?_ | refine eIf_f ?_ | refine eGet_i rfl ?_ | refine eReq_i rfl ?_ | refine slLen_e ?_ | refine eIf_ct hlt ?_ | refine eReq_i (by simp; omega) ?_ | refine eNil_ne hSne ?_ | refine slRows_v ?_ | refine eNil_n (by apply List.eq_nil_of_length_eq_zero; simp only [List.length_drop, List.length_take, List.length_map]; omega) ?_ | refine eNil_ne (by intro e; have e2 := congrArg List.length e; simp only [List.length_drop, List.length_take, List.length_map, List.length_nil] at e2; omega) ?_ | refine eReq_i (by simp [Nat.ble_eq]; omega) ?_ | refine s28r (l := S.eraseIdx i) (by rw [List.eraseIdx_eq_take_drop_succ, hwz]; simp [List.take_of_length_le]) sok2 (things := ⟨0, thingsS own⟩) hts k1 k2 ?_ | refine eIf_cf d3' ?_ | refine eIf_i (fun _ => ?_) (fun _ => ?_)) <;> (try (conv => lhs; whnf)))
              all_goals exact hnext
        · conv => lhs; whnf
          repeat' ((first | refine eIf_t ?_ | refine eIf_f ?_ | refine eGet_i rfl ?_ | refine eReq_i rfl ?_ | refine slLen_e ?_ | refine eIf_cf (show decide ((S.length : Int) < ((S.map Rul.enc).length : Int)) = false by rw [List.length_map]; exact lt_f) ?_ | refine s13 ?_ | refine eIf_i (fun _ => ?_) (fun _ => ?_)) <;> (try (conv => lhs; whnf)))
          exact h
  · have b0 : (findE s.l t p != 0) = true := by simpa using he
    have e0 : (findE s.l t p == 0) = false := by simpa using he
    have hcf' : conflR s.l t p = (0, ⟨0, []⟩) := by simp only [conflR, e0, cond_false]
    have k0 : ((conflR s.l t p).1 == 0) = true := by rw [hcf']; rfl
    have k1 : (((conflR s.l t p).2.l.length : Int) == 0) = true := by rw [hcf']; rfl
    conv => lhs; whnf
    repeat' ((first | refine eIf_t ?_ | refine eIf_f ?_ | refine eGet_i rfl ?_ | refine eReq_i rfl ?_ | refine slLen_e ?_ | refine s12 (fun b => ?_) | refine s13 ?_ | refine s25 ?_ | refine eIf_ct b0 ?_ | refine eIf_ct k0 ?_ | refine eIf_ct k1 ?_ | refine eIf_i (fun _ => ?_) (fun _ => ?_)) <;> (try (conv => lhs; whnf)))
    all_goals exact h
end Go.PM.Try
