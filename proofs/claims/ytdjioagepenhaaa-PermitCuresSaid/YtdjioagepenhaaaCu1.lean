/-
Part 1 of a proof: the machine PM, its law, the walks through the program, and what they say: PMBuiltin, PMCall, PMCalls, PMCode, PMDet, PMDet2, PMDet3, PMDet4, PMDet5, PMDet6, PMDraw1, PMDraw2, PMDraw3, PMDraw4, PMExec, PMExec2, PMFunc, PMNorm, PMOps, PMRet, PMRetB.
-/
import Derived.CallsIn
import Derived.LoopNIn
import Derived.Orders
import Derived.OrdersIn
import Derived.RangeFuncLeaves
import Derived.RangeFuncRecord
import Derived.Still
import Derived.Tactics
import Derived.TacticsIn
import Derived.Test.YtdjioagepenhaaaCu0
set_option linter.unusedVariables false
set_option linter.unusedSimpArgs false
set_option linter.unusedSectionVars false
set_option linter.unnecessarySimpa false
set_option linter.unusedSectionVars false
namespace Go.PM
variable [LoopCodes]
variable {R : Type} {P : Program}

/-- Rows written over an array's rows. -/
theorem FRel.spliceRows {E : Entry} {m : Mem} {g : Gh} {fr : Frames} {w : World} (hf : FRel E m g fr w) {d k sz : Nat} {rows : List (List RV)} (hlb : lbAt fr d k = .arr sz rows) {lg : LG} (hg : gAt g d k = some lg)
    {ys : List (List RV)} {p0 : Nat} (hfit : p0 + ys.length ≤ rows.length) {news : List Value} (hnl : news.length = ys.length * sz) (hn1 : ∀ u ∈ news, u.oneCell' = true)
    (hrel : ∀ (i : Nat) (r : List RV), ys[i]? = some r → r.length = sz ∧ ∀ (j : Nat) (rv : RV), r[j]? = some rv → ∃ u, news[i * sz + j]? = some u ∧ VRr m rv u) :
    ∃ ca Et, w.heap[lg.b]? = some (.cells ca Et (0, 0)) ∧ p0 * sz + news.length ≤ ca.size ∧ lg.sz = sz ∧ lg.n = rows.length ∧
      FRel E m g (setAt fr d k (.arr sz (splice rows p0 ys))) (w.setRow lg.b (splice ca.toList (p0 * sz) news).toArray) := by
  obtain ⟨hlb0, l', hl', hr⟩ := lbAt_blk hf.p hlb (by simp)
  rw [hg] at hl'; cases hl'
  obtain ⟨n1, n2, n3, ca, Et, hh, hcells⟩ := hr
  have hlt : ∀ p j, p < rows.length → j < sz → p * sz + j < rows.length * sz := fun p j hp hj => by
    have := Nat.mul_le_mul_right sz (show p + 1 ≤ rows.length by omega)
    rw [Nat.add_mul] at this; omega
  have hca : rows.length * sz ≤ ca.size := by
    rcases Nat.eq_zero_or_pos sz with h0 | h0
    · simp [h0]
    rcases Nat.eq_zero_or_pos rows.length with hrp | hrp
    · simp [hrp]
    have hlast : rows[rows.length - 1]? = some _ := List.getElem?_eq_getElem (by omega)
    have hll := n3 _ (List.mem_of_getElem? hlast)
    obtain ⟨u, hu, _⟩ := hcells (rows.length - 1) _ (sz - 1) _ hlast (List.getElem?_eq_getElem (by omega))
    have := (Array.getElem?_eq_some_iff.1 hu).1
    have h2 : rows.length * sz = (rows.length - 1) * sz + sz := by
      rw [← Nat.succ_mul]; congr 1; omega
    omega
  have hmul : (p0 + ys.length) * sz ≤ rows.length * sz := Nat.mul_le_mul_right _ hfit
  rw [Nat.add_mul] at hmul
  refine ⟨ca, Et, hh, by omega, n2, n1, hf.write hlb0 hg rfl (.inl rfl) (by simp) (by simp) (by simp) rfl rfl rfl (by simp) (fun b hb => setRow_other w lg.b b _ hb) ?_⟩
  refine ⟨by rw [splice_length _ _ _ (by omega)]; exact n1, n2, fun r hr => ?_, _, Et, setRow_heap w lg.b ca _ Et (0, 0) hh, fun p r j v hp hj => ?_⟩
  · obtain ⟨p, hp⟩ := List.getElem?_of_mem hr
    rw [splice_get _ _ _ (by omega)] at hp
    split at hp
    · exact (hrel _ r hp).1
    · exact n3 r (List.mem_of_getElem? hp)
  · have hrl : r.length = sz := by
      rw [splice_get _ _ _ (by omega)] at hp
      split at hp
      · exact (hrel _ r hp).1
      · exact n3 r (List.mem_of_getElem? hp)
    have hjl : j < sz := by rw [← hrl]; exact (List.getElem?_eq_some_iff.1 hj).1
    have hpl : p < rows.length := by
      have := (List.getElem?_eq_some_iff.1 hp).1
      rw [splice_length _ _ _ (by omega)] at this; exact this
    have hpos' := hlt p j hpl hjl
    simp only [List.getElem?_toArray]
    rw [splice_get _ _ _ (by simp; omega)]
    rw [splice_get _ _ _ (by omega)] at hp
    rw [hnl, ← Nat.add_mul]
    by_cases hin : p0 ≤ p ∧ p < p0 + ys.length
    · rw [if_pos hin] at hp
      obtain ⟨u, h1, h2⟩ := (hrel _ r hp).2 j v hj
      have hge : p0 * sz ≤ p * sz := Nat.mul_le_mul_right _ hin.1
      have hle2 : (p + 1) * sz ≤ (p0 + ys.length) * sz := Nat.mul_le_mul_right _ (by omega)
      rw [Nat.add_mul] at hle2
      rw [if_pos ⟨by omega, by omega⟩]
      refine ⟨u, ?_, hn1 u (List.mem_of_getElem? h1), h2⟩
      rw [Nat.sub_mul] at h1
      rw [show p * sz + j - p0 * sz = p * sz - p0 * sz + j by omega]
      exact h1
    · rw [if_neg hin] at hp
      obtain ⟨u, h1, h2, h3⟩ := hcells p r j v hp hj
      refine ⟨u, ?_, h2, h3⟩
      rw [if_neg]
      · simpa using h1
      · intro hx
        rcases Nat.lt_or_ge p p0 with hlt' | hge'
        · have := Nat.mul_le_mul_right sz (show p + 1 ≤ p0 by omega)
          rw [Nat.add_mul] at this; omega
        · have := Nat.mul_le_mul_right sz (show p0 + ys.length ≤ p by omega)
          omega

theorem clear_out {E : Entry} {m : Mem} {g : Gh} {fr : Frames} {w : World} (hf : FRel E m g fr w) {t ty : TypeId} {x : PV} {c : Value} (hx : PVR m g x c) {K : PV → Frames → Option R} {r : R} (h : clearK P fr t x K = some r) :
    Out P E m g K r (Builtin.clear_ #[t] ty #[c]) w := by
  unfold clearK at h
  split at h <;> first | (cases h; done) | skip
  rename_i e hd
  split at h <;> first | (cases h; done) | skip
  rename_i d k off len
  split at h <;> first | (cases h; done) | skip
  rename_i sz rows hlb
  obtain ⟨z, zv, i, h2, hi, hz, e1, e2, e3, e4⟩ := zeroT_some h
  split at h2 <;> first | (cases h2; done) | skip
  rename_i hc
  simp only [Bool.and_eq_true, beq_iff_eq, Nat.ble_eq] at hc
  obtain ⟨hzl, hfit⟩ := hc
  obtain ⟨l, a, cap, hg, rfl, q1, q2, q3⟩ := hx
  let news : List Value := ((Array.range (len * zv.cells.size)).map (zv.cells[· % zv.cells.size]!)).toList
  have hnl : news.length = len * sz := by simp [news]; rw [e1, ← e2, hzl]
  have hnews : ∀ (q : Nat) (u : Value), news[q]? = some u → q < len * i.size ∧ zv.cells[q % i.size]? = some u := fun q u hu => by
    have hu' : ((Array.range (len * zv.cells.size)).map (zv.cells[· % zv.cells.size]!))[q]? = some u := by rw [← Array.getElem?_toList]; exact hu
    have hlt : q < len * zv.cells.size := by have := (Array.getElem?_eq_some_iff.1 hu').1; rwa [zeroFill_size] at this
    have hpos : 0 < zv.cells.size := by
      rcases Nat.eq_zero_or_pos zv.cells.size with h0 | h0
      · rw [h0] at hlt; simp at hlt
      · exact h0
    rw [zeroFill_get _ _ _ hlt hpos, e1] at hu'
    exact ⟨by rw [← e1]; exact hlt, hu'⟩
  obtain ⟨ca, Et, hh, hfits, s1, s2, hfr⟩ := hf.spliceRows hlb hg (ys := List.replicate len z) (p0 := off) (by simpa using hfit) (news := news) (by simpa using hnl)
    (fun u hu => by
      obtain ⟨q, hq⟩ := List.getElem?_of_mem hu
      exact e3 u (Array.mem_of_getElem? (hnews q u hq).2))
    (fun q row hq => by
      have hrow := List.eq_of_mem_replicate (List.mem_of_getElem? hq)
      subst hrow
      have hql : q < len := by have := (List.getElem?_eq_some_iff.1 hq).1; simpa using this
      refine ⟨hzl, fun j rv hj => ?_⟩
      obtain ⟨u, hu, hr⟩ := (e4 m).get hj
      have hjl : j < sz := by rw [← hzl]; exact (List.getElem?_eq_some_iff.1 hj).1
      have hsz : sz = i.size := by rw [← hzl, e2]
      have hlt : q * sz + j < len * sz := by
        have := Nat.mul_le_mul_right sz (show q + 1 ≤ len by omega)
        rw [Nat.add_mul] at this; omega
      refine ⟨u, ?_, hr⟩
      have hu' : zv.cells[j]? = some u := by simpa using hu
      have hmod : (q * sz + j) % sz = j := by rw [Nat.add_comm, Nat.add_mul_mod_self_right, Nat.mod_eq_of_lt hjl]
      have : ((Array.range (len * zv.cells.size)).map (zv.cells[· % zv.cells.size]!))[q * sz + j]? = some u := by
        rw [zeroFill_get _ _ _ (by rw [e1, ← hsz]; exact hlt) (by omega), e1, ← hsz, hmod]; exact hu'
      rw [← Array.getElem?_toList] at this; exact this)
  have hst := run_storeCells_at P l.b (off * sz) Et news 0 ca w hh (by simpa using hfits) (fun u hu => by
      obtain ⟨q, hq⟩ := List.getElem?_of_mem hu
      exact e3 u (Array.mem_of_getElem? (hnews q u hq).2))
  simp only [Nat.add_zero] at hst
  refine ⟨_, _, m, g, _, _, ?_, h2, pv_skip m g, hfr, Mem.le_refl _, Gh.le_refl _⟩
  rcases Nat.eq_zero_or_pos len with h0 | h0
  · subst h0
    have hn0 : news = [] := List.eq_nil_of_length_eq_zero (by rw [hnl]; simp)
    rw [hn0] at hst ⊢
    simp only [storeCells, List.append_nil, List.length_nil, Nat.add_zero, List.take_append_drop, Array.toArray_toList] at hst
    simp [Builtin.clear_, run_underlying hd, splice, undef]
    simpa using hst
  · rcases Nat.eq_zero_or_pos 1 with hbad | _
    · cases hbad
    by_cases hoff : off < l.n
    · obtain ⟨ha, _⟩ := q2 hoff
      subst ha
      rw [s1]
      cases len with
      | zero => omega
      | succ len =>
        simp only [Builtin.clear_, Sem.run_bind]
        simp [run_underlying hd, zeroValue, typeInfo, hi, hz, Builtin.zeroCells, undef]
        simp [news, splice] at hst ⊢
        rw [hst]; rfl
    · have := q3 (by omega)
      omega

/-! ### min, max -/
theorem minL_some {lt : Int → Int → Bool} {mn : Value → Value → Sem Value} (hmn : ∀ (w : World) k k' a b, (mn (.int k a) (.int k' b)).run P w = .ok (.int k (if lt b a then b else a)) w) {m : Mem} {g : Gh} :
    ∀ {args : List PV} {cs : List Value} {a : Int} {k : IntKind} {K : IntKind → Int → Option R} {r : R}, cs.length = args.length → (∀ (i : Nat) (v : PV) (c : Value), args[i]? = some v → cs[i]? = some c → PVR m g v c) →
    minL lt a args K k = some r → ∃ n, K k n = some r ∧ ∀ w, (cs.foldlM mn (.int k a)).run P w = .ok (.int k n) w
  | [], cs, a, k, K, r, hl, _, h => by
    have : cs = [] := List.eq_nil_of_length_eq_zero (by simpa using hl)
    subst this
    exact ⟨a, by simpa [minL] using h, fun w => rfl⟩
  | v :: args, [], a, k, K, r, hl, _, h => by simp at hl
  | v :: args, c :: cs, a, k, K, r, hl, hr, h => by
    simp only [minL] at h
    split at h
    · rename_i k' b
      have hc := pv_int (hr 0 _ c rfl rfl)
      subst hc
      have hl' : cs.length = args.length := by simpa using hl
      have hr' : ∀ (i : Nat) (v : PV) (c : Value), args[i]? = some v → cs[i]? = some c → PVR m g v c := fun i v c a b => hr (i + 1) v c (by simpa using a) (by simpa using b)
      split at h
      · rename_i hlt
        obtain ⟨n, h1, h2⟩ := minL_some hmn hl' hr' h
        exact ⟨n, h1, fun w => by simp [List.foldlM_cons, hmn, hlt, h2]⟩
      · rename_i hlt
        obtain ⟨n, h1, h2⟩ := minL_some hmn hl' hr' h
        exact ⟨n, h1, fun w => by simp [List.foldlM_cons, hmn, hlt, h2]⟩
    · cases h

theorem minK_some {lt : Int → Int → Bool} {mn : Value → Value → Sem Value} (hmn : ∀ (w : World) k k' a b, (mn (.int k a) (.int k' b)).run P w = .ok (.int k (if lt b a then b else a)) w) {m : Mem} {g : Gh}
    {args : List PV} {cs : List Value} {K : PV → Option R} {r : R} (hl : cs.length = args.length) (hr : ∀ (i : Nat) (v : PV) (c : Value), args[i]? = some v → cs[i]? = some c → PVR m g v c)
    (h : minK lt args K = some r) : ∃ v x rest c, K v = some r ∧ cs = x :: rest ∧ PVR m g v c ∧ ∀ w, (rest.foldlM mn x).run P w = .ok c w := by
  unfold minK at h
  split at h
  · rename_i k a rest
    cases cs with
    | nil => simp at hl
    | cons x cs =>
      have hx := pv_int (hr 0 _ x rfl rfl)
      subst hx
      obtain ⟨n, h1, h2⟩ := minL_some hmn (by simpa using hl) (fun i v c a b => hr (i + 1) v c (by simpa using a) (by simpa using b)) h
      exact ⟨_, _, _, _, h1, rfl, pv_of_int m g k n, h2⟩
  · cases h

theorem min2_run (w : World) (k k' : IntKind) (a b : Int) : (Builtin.min2 (.int k a) (.int k' b)).run P w = .ok (.int k (if decide (b < a) then b else a)) w := by simp [Builtin.min2]
theorem max2_run (w : World) (k k' : IntKind) (a b : Int) : (Builtin.max2 (.int k a) (.int k' b)).run P w = .ok (.int k (if decide (a < b) then b else a)) w := by simp [Builtin.max2]

end Go.PM

set_option linter.unusedSectionVars false
namespace Go.PM
variable [LoopCodes]
variable {R : Type} {P : Program}

/-- Values, one by one. -/
def PVsR (m : Mem) (g : Gh) (vs : List PV) (cs : List Value) : Prop :=
  cs.length = vs.length ∧ ∀ (i : Nat) (v : PV) (c : Value), vs[i]? = some v → cs[i]? = some c → PVR m g v c

theorem PVsR.nil (m : Mem) (g : Gh) : PVsR m g [] [] := ⟨rfl, fun i v c h => by simp at h⟩
theorem PVsR.cons {m : Mem} {g : Gh} {v : PV} {c : Value} {vs : List PV} {cs : List Value} (h : PVR m g v c) (h' : PVsR m g vs cs) : PVsR m g (v :: vs) (c :: cs) :=
  ⟨by simp [h'.1], fun i u d a b => by
    cases i with
    | zero => simp at a b; subst a; subst b; exact h
    | succ i => exact h'.2 i u d (by simpa using a) (by simpa using b)⟩
theorem PVsR.uncons {m : Mem} {g : Gh} {v : PV} {vs : List PV} {cs : List Value} (h : PVsR m g (v :: vs) cs) : ∃ c cs', cs = c :: cs' ∧ PVR m g v c ∧ PVsR m g vs cs' := by
  cases cs with
  | nil => have := h.1; simp at this
  | cons c cs => exact ⟨c, cs, rfl, h.2 0 v c rfl rfl, by have := h.1; simpa using this, fun i u d a b => h.2 (i + 1) u d (by simpa using a) (by simpa using b)⟩
theorem PVsR.mono {m m' : Mem} {g g' : Gh} (hm : m.le m') (hg : g.le g') {vs : List PV} {cs : List Value} (h : PVsR m g vs cs) : PVsR m' g' vs cs :=
  ⟨h.1, fun i v c a b => (h.2 i v c a b).mono hm hg⟩
theorem PVsR.append {m : Mem} {g : Gh} {vs vs' : List PV} {cs cs' : List Value} (h : PVsR m g vs cs) (h' : PVsR m g vs' cs') : PVsR m g (vs ++ vs') (cs ++ cs') := by
  induction vs generalizing cs with
  | nil =>
    have : cs = [] := List.eq_nil_of_length_eq_zero (by simpa using h.1)
    subst this; exact h'
  | cons v vs ih =>
    obtain ⟨c, cs2, rfl, h1, h2⟩ := h.uncons
    exact (ih h2).cons h1
theorem PVsR.evs {E : Entry} {m : Mem} {g : Gh} {st : St} {a : Act} {w : World} (h : SRel E m g st a w) (xs : List Operand) : PVsR m g (xs.map st.ev) (xs.map a.eval) := by
  induction xs with
  | nil => exact PVsR.nil m g
  | cons x xs ih => exact PVsR.cons (h.ev x) ih

theorem capK_some {fr : Frames} : ∀ {vs : List PV} {K : List CV → Option R} {r : R}, capK fr vs K = some r →
    ∃ cv, K cv = some r ∧ cv.length = vs.length ∧ ∀ (m : Mem) (g : Gh) (cs : List Value), PVsR m g vs cs → ∀ (i : Nat) (v : CV) (u : Value), cv[i]? = some v → cs[i]? = some u → CVR m g v u
  | [], K, r, h => ⟨[], by simpa [capK] using h, rfl, fun m g cs _ i v u a => by simp at a⟩
  | v :: vs, K, r, h => by
    simp only [capK] at h
    split at h <;> first | (cases h; done) | skip
    · obtain ⟨cv, h1, h2, h3⟩ := capK_some h
      refine ⟨_, h1, by simp [h2], fun m g cs hcs i x u a b => ?_⟩
      obtain ⟨c, cs', rfl, e1, e2⟩ := hcs.uncons
      cases i with
      | zero => simp at a b; subst a; subst b; exact e1
      | succ i => exact h3 m g cs' e2 i x u (by simpa using a) (by simpa using b)
    · obtain ⟨cv, h1, h2, h3⟩ := capK_some h
      refine ⟨_, h1, by simp [h2], fun m g cs hcs i x u a b => ?_⟩
      obtain ⟨c, cs', rfl, e1, e2⟩ := hcs.uncons
      cases i with
      | zero => simp at a b; subst a; subst b; exact e1
      | succ i => exact h3 m g cs' e2 i x u (by simpa using a) (by simpa using b)

theorem allRo_some {m : Mem} {g : Gh} : ∀ {cv : List CV} {vs : List RV} {cs : List Value}, allRo cv = some vs → cs.length = cv.length → (∀ (i : Nat) (v : CV) (u : Value), cv[i]? = some v → cs[i]? = some u → CVR m g v u) → ListR m vs cs
  | [], vs, cs, h, hl, _ => by
    simp only [allRo] at h; cases h
    have : cs = [] := List.eq_nil_of_length_eq_zero (by simpa using hl)
    subst this
    simp [ListR]
  | .ro v :: cv, vs, [], h, hl, _ => by simp at hl
  | .ro v :: cv, vs, c :: cs, h, hl, hr => by
    simp only [allRo] at h
    split at h
    · rename_i ws hw
      cases h
      simp only [ListR]
      exact ⟨c, cs, rfl, hr 0 _ c rfl rfl, allRo_some hw (by simpa using hl) fun i v u a b => hr (i + 1) v u (by simpa using a) (by simpa using b)⟩
    · cases h
  | .ptr .. :: _, _, _, h, _, _ => by simp [allRo] at h

/-- A closure over values and variables. -/
theorem fn_rel {m : Mem} {g : Gh} {cv : List CV} {cs : List Value} {f : FuncId} {K : PV → Option R} {r : R} (hl : cs.length = cv.length) (hr : ∀ (i : Nat) (v : CV) (u : Value), cv[i]? = some v → cs[i]? = some u → CVR m g v u)
    (h : (match allRo cv with
      | some vs => K (.ro (.fn f vs))
      | none => K (.s (.fn f cv))) = some r) : ∃ v, K v = some r ∧ PVR m g v (.func (.func f) #[] cs.toArray) := by
  split at h
  · rename_i vs hv
    refine ⟨_, h, ?_⟩
    simp only [PVR, SVR, VRr]
    exact ⟨cs, rfl, allRo_some hv hl hr⟩
  · exact ⟨_, h, cs, rfl, hl, hr⟩

/-- A box is frozen. -/
theorem FRel.freezeBox {E : Entry} {m : Mem} {g : Gh} {fr : Frames} {w : World} (hf : FRel E m g fr w) {k : Nat} {cells : List SV} (hlb : lbAt fr 0 k = .box cells) {vs : List RV} (hl : vs.length = cells.length)
    (hv : ∀ (m : Mem) (g : Gh) (i : Nat) (s : SV) (v : RV) (u : Value), cells[i]? = some s → vs[i]? = some v → SVR m g s u → VRr m v u) :
    ∃ m' l, gAt g 0 k = some l ∧ l.sz = vs.length ∧ FRel E m' g (setAt fr 0 k (.froz vs.length [vs])) w ∧ m.le m' ∧ RowR m' l.b 0 vs := by
  obtain ⟨hlb0, l, hg, hr⟩ := lbAt_blk hf.p hlb (by simp)
  obtain ⟨n1, n2, c, Et, hh, hc⟩ := hr
  let m' : Mem := fun b o => if b = l.b then c[o]? else m b o
  have hle : m.le m' := fun b o u hu => by
    show (if _ then _ else _) = _
    rw [if_neg]
    · exact hu
    · rintro rfl
      obtain ⟨sz, n, e, _⟩ := hf.p.dis 0 k _ l l.b o u hlb0 hg rfl hu
      cases e
  have hrow : RowR m' l.b 0 vs := RowR.of_get fun i v hi => by
    have hil : i < cells.length := by rw [← hl]; exact (List.getElem?_eq_some_iff.1 hi).1
    obtain ⟨u, a, b, d⟩ := hc i _ (List.getElem?_eq_getElem hil)
    refine ⟨u, ?_, b, VRr.mono hle _ _ (hv m _ i _ v u (List.getElem?_eq_getElem hil) hi d)⟩
    rw [Nat.zero_add]
    exact (if_pos rfl).trans a
  refine ⟨m', l, hg, by rw [n2, hl], hf.freeze hlb0 hg rfl rfl (by simp) hle (fun b o u hu => ?_) ⟨n1, by rw [n2, hl], ?_⟩, hle, hrow⟩
  · by_cases e : b = l.b
    · subst e
      refine .inr ⟨rfl, ?_⟩
      rw [cell_of_row _ _ o c Et (0, 0) hh]
      exact (if_pos rfl).symm.trans hu
    · exact .inl ((if_neg e).symm.trans hu)
  · simp only [RowsR]
    exact ⟨trivial, hrow, trivial⟩

theorem freezeK_some : ∀ {vs : List PV} {fr : Frames} {K : Frames → List PV → Option R} {r : R}, freezeK fr vs K = some r →
    ∃ fr' vs', K fr' vs' = some r ∧ ∀ (E : Entry) (m : Mem) (g : Gh) (w : World) (cs : List Value), FRel E m g fr w → PVsR m g vs cs → ∃ m', FRel E m' g fr' w ∧ m.le m' ∧ PVsR m' g vs' cs
  | [], fr, K, r, h => ⟨fr, [], by simpa [freezeK] using h, fun E m g w cs hf hc => ⟨m, hf, Mem.le_refl m, hc⟩⟩
  | v :: vs, fr, K, r, h => by
    unfold freezeK at h
    split at h
    · rename_i k off
      split at h <;> first | (cases h; done) | skip
      · rename_i cells hlb
        obtain ⟨ws, h1, h2, h3⟩ := sealAll_some h
        obtain ⟨fr', vs', e1, e2⟩ := freezeK_some h1
        refine ⟨fr', _, e1, fun E m g w cs hf hc => ?_⟩
        obtain ⟨c, cs', rfl, c1, c2⟩ := hc.uncons
        obtain ⟨m', l, hg, hls, hf', hle, hrow⟩ := hf.freezeBox hlb h2 h3
        obtain ⟨m'', f1, f2, f3⟩ := e2 E m' g w cs' hf' (c2.mono hle (Gh.le_refl g))
        refine ⟨m'', f1, Mem.le_trans hle f2, PVsR.cons ?_ f3⟩
        obtain ⟨l', hg', rfl⟩ := c1
        rw [hg] at hg'; cases hg'
        simp only [PVR, SVR, VRr]
        exact ⟨l.b, 0, by simp, RowR.mono f2 _ _ _ hrow⟩
      · rename_i sz ws hlb
        obtain ⟨fr', vs', e1, e2⟩ := freezeK_some h
        refine ⟨fr', _, e1, fun E m g w cs hf hc => ?_⟩
        obtain ⟨c, cs', rfl, c1, c2⟩ := hc.uncons
        obtain ⟨m'', f1, f2, f3⟩ := e2 E m g w cs' hf c2
        refine ⟨m'', f1, f2, PVsR.cons ?_ f3⟩
        obtain ⟨l', hg', rfl⟩ := c1
        obtain ⟨_, l, hg, hr⟩ := lbAt_blk hf.p hlb (by simp)
        rw [hg] at hg'; cases hg'
        obtain ⟨_, _, hr⟩ := hr
        simp only [RowsR] at hr
        simp only [PVR, SVR, VRr]
        exact ⟨l'.b, 0, by simp, RowR.mono f2 _ _ _ hr.2.1⟩
    · obtain ⟨fr', vs', e1, e2⟩ := freezeK_some h
      refine ⟨fr', _, e1, fun E m g w cs hf hc => ?_⟩
      obtain ⟨c, cs', rfl, c1, c2⟩ := hc.uncons
      obtain ⟨m'', f1, f2, f3⟩ := e2 E m g w cs' hf c2
      exact ⟨m'', f1, f2, PVsR.cons (c1.mono f2 (Gh.le_refl g)) f3⟩

end Go.PM

set_option linter.unusedSectionVars false
namespace Go.PM
variable [LoopCodes]
variable {R : Type} {P : Program}

/-- What comes of an operation. -/
def OutN (P : Program) (E : Entry) (m : Mem) (g : Gh) (K : PV → Frames → Option R) (r : R) (s : Sem Next) (w : World) : Prop :=
  ∃ nx c w' m' g' v fr', s.run P w = .ok nx w' ∧ (nx = .value c ∨ (nx = .skip ∧ c = undef)) ∧ K v fr' = some r ∧ PVR m' g' v c ∧ FRel E m' g' fr' w' ∧ m.le m' ∧ g.le g'

section
variable {E : Entry} {m : Mem} {g : Gh} {K : PV → Frames → Option R} {r : R} {w : World} {fr : Frames}
theorem Out.next {s : Sem Value} (h : Out P E m g K r s w) : OutN P E m g K r (do pure (.value (← s))) w := by
  obtain ⟨c, w', m', g', v, fr', h1, h2, h3, h4, h5, h6⟩ := h
  exact ⟨.value c, c, w', m', g', v, fr', by simp [h1], .inl rfl, h2, h3, h4, h5, h6⟩
theorem OutN.pure {c : Value} {v : PV} (hK : K v fr = some r) (hv : PVR m g v c) (hf : FRel E m g fr w) : OutN P E m g K r (pure (.value c)) w :=
  ⟨.value c, c, w, m, g, v, fr, rfl, .inl rfl, hK, hv, hf, Mem.le_refl _, Gh.le_refl _⟩
theorem OutN.unit {s : Sem Unit} {w' : World} {fr' : Frames} (hs : s.run P w = .ok () w') (hK : K skipP fr' = some r) (hf : FRel E m g fr' w') : OutN P E m g K r (do s; Pure.pure .skip) w :=
  ⟨.skip, undef, w', m, g, skipP, fr', by simp [hs], .inr ⟨rfl, rfl⟩, hK, pv_skip m g, hf, Mem.le_refl _, Gh.le_refl _⟩
end

theorem emptySlice_run {t e : TypeId} (hd : P.underlying t = some (.slice e)) {i : TypeInfo} (hi : P.info? e = some i) (w : World) : (Instr.buildSlice t 0 #[]).run P w = .ok (.slice (some ⟨w.heap.size, 0, none⟩) 0 0) (w.alloc (.cells #[] e)) := by
  simp [Instr.buildSlice, run_underlying hd, sizeOf, typeInfo, hi, newRow, Instr.fill, show Array.range 0 = #[] from rfl]

theorem fieldOff_info {t : TypeId} {i off : Nat} {ft : TypeId} (h : fieldOff P t i = some (off, ft)) (x : Value) (cs : Array Value) (hx : x = .agg cs) (w : World) : (Instr.field t x i).run P w = (part ft cs off).run P w := by
  obtain ⟨fs, fd, hd, hfd, rfl, rfl, hs⟩ := fieldOff_some h
  subst hx
  simp [Instr.field, run_underlying hd, hfd, asAgg]

theorem len_run {E : Entry} {m : Mem} {g : Gh} {fr : Frames} {w : World} (hf : FRel E m g fr w) {t ty : TypeId} {x : PV} {c : Value} {K : PV → Frames → Option R} {r : R}
    (h : (match P.underlying t with
      | some (.array n _) => K (.ro (.int .i64 n)) fr
      | some (.map _ _) => match x with
        | .s (.mp d k) => match lbAt fr d k with
          | .map es => K (.ro (.int .i64 es.length)) fr
          | _ => none
        | _ => none
      | some (.slice _) => match x with
        | .s (.ro (.str _)) => none
        | x => wLen x fun n => K (.ro (.int .i64 n)) fr
      | some .string => match x with
        | .s (.ro (.str s)) => K (.ro (.int .i64 s.size)) fr
        | _ => none
      | _ => none) = some r) (hx : PVR m g x c) : Out P E m g K r (Builtin.len_ #[t] ty #[c]) w := by
  split at h <;> first | (cases h; done) | skip
  · rename_i n e hd
    refine Out.still ?_ h (pv_of_int m g .i64 n) hf
    cases c <;> simp [Builtin.len_, run_underlying hd, goInt]
  · rename_i kt et hd
    split at h <;> first | (cases h; done) | skip
    rename_i d k
    split at h <;> first | (cases h; done) | skip
    rename_i es hlb
    obtain ⟨_, l, hg, hr⟩ := lbAt_blk hf.p hlb (by simp)
    obtain ⟨ents, clock, hh, hsz, hrel⟩ := hr
    obtain ⟨l', hg', rfl⟩ := hx
    rw [hg] at hg'; cases hg'
    refine Out.still ?_ h (pv_of_int m g .i64 es.length) hf
    simp [Builtin.len_, run_underlying hd, run_getObj_at hh, goInt, hsz]
  · rename_i e hd
    split at h
    · cases h
    rename_i hns
    obtain ⟨n, h1, _, _, _, _, h2⟩ := wLen_some h
    refine Out.still ?_ h1 (pv_of_int m g .i64 n) hf
    rcases h2 m g c hx with ⟨a, cap, rfl, _⟩ | ⟨s, rfl, _, e⟩
    · simp [Builtin.len_, run_underlying hd, goInt]
    · exact absurd e (hns s)
  · rename_i hd
    split at h <;> first | (cases h; done) | skip
    rename_i s
    have hc := pv_str hx
    subst hc
    refine Out.still ?_ h (pv_of_int m g .i64 s.size) hf
    simp [Builtin.len_, run_underlying hd, goInt]

theorem builtin_out {E : Entry} {m : Mem} {g : Gh} {fr : Frames} {w : World} (hf : FRel E m g fr w) {hh : Hint} {f : FuncId} {o : Oper} {b : Builtin} {ts : Array TypeId} {args : List PV} {cs : Array Value} (hc : PVsR m g args cs.toList) {consts : Array Bool}
    {ix : Nat} {K : PV → Frames → Option R} {r : R} (h : builtinK P hh f o b ts.toList args ix fr K = some r) : OutN P E m g K r (builtin b ts o.type consts cs) w := by
  unfold builtinK at h
  split at h <;> first | (cases h; done) | skip
  · split at h <;> first | (cases h; done) | skip
    rename_i t x hts
    obtain ⟨c, cs', e1, e2, e3⟩ := hc.uncons
    have e4 : cs' = [] := List.eq_nil_of_length_eq_zero e3.1
    have e5 : cs = #[c] := by apply Array.ext'; rw [e1, e4]
    have e6 : ts = #[t] := by apply Array.ext'; rw [hts]
    subst e5; subst e6
    exact Out.next (len_run hf h e2)
  · split at h <;> first | (cases h; done) | skip
    rename_i t t' s x hts
    obtain ⟨c, cs', e1, e2, e3⟩ := hc.uncons
    obtain ⟨c', cs'', rfl, e2', e3'⟩ := e3.uncons
    have e4 : cs'' = [] := List.eq_nil_of_length_eq_zero e3'.1
    subst e4
    have e5 : cs = #[c, c'] := by apply Array.ext'; rw [e1]
    split at h <;> first | (cases h; done) | skip
    rename_i e htt hd
    have htt' : t = t' := by simpa using htt
    subst htt'
    have e6 : ts = #[t, t] := by apply Array.ext'; rw [hts]
    subst e5; subst e6
    split at h <;> first | (cases h; done) | skip
    rename_i hZ
    exact Out.next (appendK_out hf hd hZ e2 e2' h)
  · obtain ⟨v, x, rest, c, h1, h2, h3, h4⟩ := minK_some (P := P) (mn := Builtin.min2) min2_run hc.1 hc.2 h
    refine Out.next (Out.still (c := c) ?_ h1 h3 hf)
    simp only [Builtin.min_, h2]
    exact h4 w
  · obtain ⟨v, x, rest, c, h1, h2, h3, h4⟩ := minK_some (P := P) (mn := Builtin.max2) max2_run hc.1 hc.2 h
    refine Out.next (Out.still (c := c) ?_ h1 h3 hf)
    simp only [Builtin.max_, h2]
    exact h4 w
  · split at h <;> first | (cases h; done) | skip
    rename_i t x hts
    obtain ⟨c, cs', e1, e2, e3⟩ := hc.uncons
    have e4 : cs' = [] := List.eq_nil_of_length_eq_zero e3.1
    have e5 : cs = #[c] := by apply Array.ext'; rw [e1, e4]
    have e6 : ts = #[t] := by apply Array.ext'; rw [hts]
    subst e5; subst e6
    exact Out.next (clear_out hf e2 h)

end Go.PM

set_option linter.unusedSectionVars false
namespace Go.PM
variable [LoopCodes]
variable {R : Type} {P : Program}

theorem optR_ev {E : Entry} {m : Mem} {g : Gh} {st : St} {a : Act} {w : World} (h : SRel E m g st a w) (x : Option Operand) : OptR m g (x.map st.ev) (x.map a.eval) := by
  cases x with
  | none => trivial
  | some x => exact h.ev x

theorem extract_run {m : Mem} {g : Gh} {vs : List RV} {c : Value} {i : Nat} {v : RV} (hc : PVR m g (.s (.ro (.tup vs))) c) (hv : vs[i]? = some v) (w : World) : ∃ u, (Instr.extract c i).run P w = .ok u w ∧ PVR m g (.ro v) u := by
  simp only [PVR, SVR, VRr] at hc
  obtain ⟨cs, rfl, hl⟩ := hc
  obtain ⟨u, h1, h2⟩ := hl.get hv
  exact ⟨u, by simp [Instr.extract, h1], h2⟩

theorem execK_out {E : Entry} {m : Mem} {g : Gh} {st : St} {a : Act} {w : World} {hh : Hint} (hE : EqOK P hh) (hs : SRel E m g st a w) {f : FuncId} {o : Oper} {ix : Nat} {K : PV → Frames → Option R} {r : R}
    (h : execK P hh f o ix st K = some r) : OutN P E m g K r (execOp a.eval o) w := by
  unfold execK at h
  split at h
  · -- move
    rename_i x hop
    simp only [execOp, hop]
    exact OutN.pure h (hs.ev x) hs.f
  · rename_i x hop
    simp only [execOp, hop]
    exact OutN.pure h (hs.ev x) hs.f
  · -- pick
    rename_i c x y hop
    obtain ⟨b, hb, h1⟩ := wBool_some h
    have hc := hs.ev c
    rw [hb] at hc
    have hc' := pv_bool hc
    simp only [execOp, hop, hc']
    cases b with
    | true => exact OutN.pure (c := a.eval x) h1 (hs.ev x) hs.f
    | false => exact OutN.pure (c := a.eval y) h1 (hs.ev y) hs.f
  · -- alloc
    rename_i e hop
    simp only [execOp, hop]
    split at h
    · exact Out.next (alloc_out hs.f h)
    · exact Out.next (alloc2_out hs.f h)
  · -- box
    rename_i t x hop
    simp only [execOp, hop]
    split at h
    · exact Out.next (boxRo_out hs.f (hs.ev x) h)
    · split at h <;> first | (cases h; done) | skip
      rename_i hst
      exact Out.next (boxLoc_out hs.f (hs.ev x) hst h)
  · -- build
    rename_i t ps hop
    simp only [execOp, hop]
    split at h <;> first | (cases h; done) | skip
    rename_i hok
    obtain ⟨v, c, h1, h2, h3⟩ := buildK_some (K := fun v => K v st.fr) hs hok h
    exact Out.next (Out.still h2 h1 h3 hs.f)
  · -- buildSlice
    rename_i t len ps hop
    simp only [execOp, hop]
    split at h <;> first | (cases h; done) | skip
    rename_i e hd
    split at h
    · split at h <;> first | (cases h; done) | skip
      rename_i hps
      have hp0 : ps = #[] := by apply Array.ext'; rw [hps]
      subst hp0
      split at h <;> first | (cases h; done) | skip
      rename_i hok
      obtain ⟨i, hi⟩ := elemOKb_info hok
      obtain ⟨m', f1, f2, _⟩ := hs.f.seal #[] e
      have hrun := emptySlice_run hd hi w
      refine Out.next ⟨.slice (some ⟨w.heap.size, 0, none⟩) 0 0, _, m', g, _, _, ?_, h, ?_, f1, f2, Gh.le_refl _⟩
      · simpa using hrun
      · simp only [PVR, SVR, VRr]
        exact ⟨_, rfl⟩
    · rename_i hlen
      cases hb : (Nat.ble (len * sizeT P e) 16777216 && Nat.blt 0 (sizeT P e)) with
      | false =>
        rw [hb] at h
        obtain ⟨z, zv, i, h1, _⟩ := zeroT_some h
        cases h1
      | true =>
        simp only [hb] at h
        simp only [Bool.and_eq_true, Nat.ble_eq, Nat.blt_eq] at hb
        obtain ⟨vs, cs, h1, h2, h3, h4, h5, h6⟩ := buildSlice_core hs hd (fun h0 => hlen h0) hb.1 hb.2 h
        split at h1 <;> first | (cases h1; done) | skip
        rename_i hok
        split at h1
        · exact Out.next (buildSliceRo_out hs.f h2 h3 h4 h5 h6 hok h1)
        · exact Out.next (buildSliceLoc_out hs.f h2 h3 h4 h5 h6 hok h1)
  · -- load
    rename_i t x hop
    simp only [execOp, hop]
    obtain ⟨v, h1, h2⟩ := loadK_some h
    obtain ⟨u, e1, e2⟩ := h2 m g w _ hs.f.p (hs.ev x)
    exact Out.next (Out.still e1 h1 e2 hs.f)
  · -- store
    rename_i t x y hop
    simp only [execOp, hop]
    obtain ⟨fr', h1, h2⟩ := storeK_some h
    obtain ⟨w', e1, e2⟩ := h2 E m g w _ _ hs.f (hs.ev x) (hs.ev y)
    exact OutN.unit e1 h1 e2
  · -- nilCheck
    rename_i x hop
    have hx := hs.ev x
    simp only [execOp, hop]
    split at h <;> first | (cases h; done) | skip
    all_goals (rename_i he; rw [he] at hx)
    · have hx' := hx
      simp only [PVR, SVR, VRr] at hx
      obtain ⟨b, o', e1, _⟩ := hx
      rw [e1] at hx' ⊢
      exact OutN.pure h hx' hs.f
    · have hx' := hx
      obtain ⟨l, _, e1⟩ := hx
      rw [e1] at hx' ⊢
      exact OutN.pure h hx' hs.f
    · have hx' := hx
      simp only [PVR, SVR, VRr] at hx
      obtain ⟨cs, e1, _⟩ := hx
      rw [e1] at hx' ⊢
      exact OutN.pure h hx' hs.f
    · have hx' := hx
      obtain ⟨cs, e1, _⟩ := hx
      rw [e1] at hx' ⊢
      exact OutN.pure h hx' hs.f
  · -- binOp
    rename_i op t x y res hop
    simp only [execOp, hop]
    obtain ⟨v, h1, h2⟩ := binOpK_some hE h
    obtain ⟨c, e1, e2⟩ := h2 m g w _ _ (hs.ev x) (hs.ev y) x y
    exact Out.next (s := do eqGuard op t x y (a.eval x) (a.eval y); binOp op t (a.eval x) (a.eval y)) (Out.still e1 h1 e2 hs.f)
  · -- unOp
    rename_i op t x hop
    simp only [execOp, hop]
    obtain ⟨v, h1, h2⟩ := unOpK_some h
    obtain ⟨c, e1, e2⟩ := h2 m g w _ (hs.ev x)
    exact Out.next (Out.still e1 h1 e2 hs.f)
  · -- convert
    rename_i src dst x hop
    simp only [execOp, hop]
    obtain ⟨v, h1, h2⟩ := convertK_some h
    obtain ⟨c, e1, e2⟩ := h2 m g w _ (hs.ev x)
    exact Out.next (Out.still e1 h1 e2 hs.f)
  · -- makeFunc
    rename_i gf first cap hop
    simp only [execOp, hop]
    split at h <;> first | (cases h; done) | skip
    rename_i hfirst
    have hf0 : first.map a.eval = #[] := by
      have : first = #[] := by apply Array.ext'; rw [hfirst]
      rw [this]; simp
    have hcap : (cap.map a.eval) = (cap.toList.map a.eval).toArray := by apply Array.ext'; simp
    rw [hf0, hcap]
    split at h
    · obtain ⟨fr', vs', h1, h2⟩ := freezeK_some h
      obtain ⟨cv, h3, h4, h5⟩ := capK_some h1
      obtain ⟨m', e1, e2, e3⟩ := h2 E m g w _ hs.f (PVsR.evs hs cap.toList)
      obtain ⟨v, q1, q2⟩ := fn_rel (K := fun v => K v fr') (by rw [h4, e3.1]) (h5 m' g _ e3) h3
      exact Out.next ⟨_, _, m', g, v, fr', rfl, q1, q2, e1, e2, Gh.le_refl _⟩
    · obtain ⟨cv, h3, h4, h5⟩ := capK_some h
      have e3 := PVsR.evs hs cap.toList
      obtain ⟨v, q1, q2⟩ := fn_rel (K := fun v => K v st.fr) (by rw [h4, e3.1]) (h5 m g _ e3) h3
      exact Out.next (Out.still rfl q1 q2 hs.f)
  · -- makeMap
    rename_i t rr hop
    simp only [execOp, hop]
    split at h <;> first | (cases h; done) | skip
    exact Out.next (makeMap_out hs.f h)
  · -- makeSlice
    rename_i t l c hop
    simp only [execOp, hop]
    split at h <;> first | (cases h; done) | skip
    rename_i e hd
    obtain ⟨k, n, hl, h1⟩ := wInt_some h
    obtain ⟨k', n', hl', h2⟩ := wInt_some h1
    split at h2 <;> first | (cases h2; done) | skip
    rename_i hc
    simp only [Bool.and_eq_true, decide_eq_true_eq, beq_iff_eq, Nat.ble_eq, Nat.blt_eq] at hc
    obtain ⟨⟨⟨⟨c1, rfl⟩, c2⟩, c3⟩, c4⟩ := hc
    have q1 := hs.ev l
    have q2 := hs.ev c
    rw [hl] at q1; rw [hl'] at q2
    rw [pv_int q1, pv_int q2]
    exact Out.next (makeSlice_out hs.f hd c1 c2 c3 c4 h2)
  · -- slice
    rename_i t x lo hi mx hop
    simp only [execOp, hop]
    obtain ⟨v, h1, h2⟩ := sliceK_some h
    obtain ⟨u, e1, e2⟩ := h2 m g w _ _ _ _ hs.f.p (hs.ev x) (optR_ev hs lo) (optR_ev hs hi) (optR_ev hs mx)
    exact Out.next (Out.still e1 h1 e2 hs.f)
  · -- fieldAddr
    rename_i t x i hop
    simp only [execOp, hop]
    split at h <;> first | (cases h; done) | skip
    rename_i off ft hoff
    have hx := hs.ev x
    split at h <;> first | (cases h; done) | skip
    all_goals (rename_i he; rw [he] at hx)
    · simp only [PVR, SVR, VRr] at hx
      obtain ⟨b, o', e1, e2⟩ := hx
      rw [e1]
      refine Out.next (Out.still (fieldAt_run hoff w b _) h ?_ hs.f)
      simp only [PVR, SVR, VRr]
      exact ⟨b, o', by rw [Nat.add_assoc], e2⟩
    · obtain ⟨l, hg, e1⟩ := hx
      rw [e1]
      refine Out.next (Out.still (fieldAt_run hoff w l.b _) h ?_ hs.f)
      exact ⟨l, hg, by rw [Nat.add_assoc]⟩
  · -- field
    rename_i t x i hop
    simp only [execOp, hop]
    split at h <;> first | (cases h; done) | skip
    rename_i off ft hoff
    have hx := hs.ev x
    split at h <;> first | (cases h; done) | skip
    all_goals (rename_i he; rw [he] at hx)
    · split at h <;> first | (cases h; done) | skip
      rename_i agg hag
      obtain ⟨v, h1, h2⟩ := partRow_some hag h
      simp only [PVR, SVR, VRr] at hx
      obtain ⟨cs, e1, e2, e3⟩ := hx
      obtain ⟨c, q1, q2⟩ := h2 m g w cs e2 e3
      exact Out.next (Out.still (by rw [fieldOff_info hoff _ _ e1]; exact q1) h1 q2 hs.f)
    · split at h <;> first | (cases h; done) | skip
      rename_i agg hag
      obtain ⟨v, h1, h2⟩ := partBox_some hag h
      obtain ⟨cs, e1, e2, e3, e4⟩ := hx
      obtain ⟨c, q1, q2⟩ := h2 m g w cs e2 e3 e4
      exact Out.next (Out.still (by rw [fieldOff_info hoff _ _ e1]; exact q1) h1 q2 hs.f)
  · -- indexAddr
    rename_i t x i hop
    simp only [execOp, hop]
    obtain ⟨k, n, hi, h1⟩ := wInt_some h
    obtain ⟨v, h2, h3⟩ := indexAddrK_some h1
    obtain ⟨c, e1, e2⟩ := h3 m g w _ hs.f.p (hs.ev x) k
    have q := hs.ev i
    rw [hi] at q
    rw [pv_int q]
    exact Out.next (Out.still e1 h2 e2 hs.f)
  · -- index
    rename_i t x i hop
    simp only [execOp, hop]
    obtain ⟨k, n, hi, h1⟩ := wInt_some h
    have q := hs.ev i
    rw [hi] at q
    rw [pv_int q]
    have hx := hs.ev x
    split at h1 <;> first | (cases h1; done) | skip
    all_goals (rename_i he; rw [he] at hx)
    · split at h1 <;> first | (cases h1; done) | skip
      rename_i hd
      split at h1 <;> first | (cases h1; done) | skip
      rename_i bb h0 hb
      have h0' : 0 ≤ n := by simpa using h0
      rw [pv_str hx]
      refine Out.next (Out.still ?_ h1 (pv_of_int m g .u8 _) hs.f)
      simp [Instr.index, asIntOf, run_underlying hd, h0', hb]
    · split at h1 <;> first | (cases h1; done) | skip
      rename_i len e hd
      split at h1 <;> first | (cases h1; done) | skip
      rename_i agg hb hag
      simp only [Bool.and_eq_true, decide_eq_true_eq] at hb
      obtain ⟨v, h2, h3⟩ := partRow_some hag h1
      simp only [PVR, SVR, VRr] at hx
      obtain ⟨cs, e1, e2, e3⟩ := hx
      obtain ⟨c, q1, q2⟩ := h3 m g w cs e2 e3
      obtain ⟨_, de, hde⟩ := run_isAgg hag w
      refine Out.next (Out.still (c := c) ?_ h2 q2 hs.f)
      rw [e1]
      simp [Instr.index, asIntOf, run_underlying hd, hb, run_sizeOf hde, q1]
  · -- lookup
    rename_i t x i ok hop
    simp only [execOp, hop]
    split at h <;> first | (cases h; done) | skip
    rename_i kt et hd
    have hx := hs.ev x
    split at h <;> first | (cases h; done) | skip
    rename_i d k he
    rw [he] at hx
    split at h <;> first | (cases h; done) | skip
    rename_i es hlb
    obtain ⟨key, h1, hkey⟩ := wRo_some h
    have hkr := hkey m g _ (hs.ev i)
    split at h1 <;> first | (cases h1; done) | skip
    rename_i hk
    split at h1 <;> first | (cases h1; done) | skip
    · rename_i j v hfe
      rcases lookup_run hs.f.p hd hlb hx hk hkr ok hfe with ⟨i', v', u, e1, e2, e3⟩ | ⟨e1, _⟩
      · cases e1
        refine Out.next (Out.still e3 h1 ?_ hs.f)
        cases ok <;> simp [PVR, SVR, VRr, ListR, e2]
      · cases e1
    · rename_i hfe
      rcases lookup_run hs.f.p hd hlb hx hk hkr ok hfe with ⟨i', v', u, e1, e2, e3⟩ | ⟨_, e3⟩
      · cases e1
      · unfold zero1 at h1
        split at h1 <;> first | (cases h1; done) | skip
        rename_i inf hinf
        split at h1 <;> first | (cases h1; done) | skip
        rename_i zv hz
        split at h1 <;> first | (cases h1; done) | skip
        rename_i hok
        have hrun : (zeroValue et).run P w = .ok zv w := by simp [zeroValue, typeInfo, hinf, hz]
        have hzr := constOK_rel (m := m) hok
        refine Out.next (Out.still (e3 _ _ hrun) h1 ?_ hs.f)
        cases ok <;> simp [PVR, SVR, VRr, ListR, hzr]
  · -- mapUpdate
    rename_i t mm key v hop
    simp only [execOp, hop]
    split at h <;> first | (cases h; done) | skip
    rename_i kt et hd
    have hx := hs.ev mm
    split at h <;> first | (cases h; done) | skip
    rename_i d k he
    rw [he] at hx
    split at h <;> first | (cases h; done) | skip
    rename_i es hlb
    obtain ⟨key', h1, hkey⟩ := wRo_some h
    obtain ⟨v', h2, hval⟩ := wRo_some h1
    have hkr := hkey m g _ (hs.ev key)
    have hvr := hval m g _ (hs.ev v)
    split at h2 <;> first | (cases h2; done) | skip
    rename_i hk
    split at h2 <;> first | (cases h2; done) | skip
    · rename_i j u hfe
      obtain ⟨w', e1, e2⟩ := mapUpdate_run hs.f hd hlb hx hk hkr hvr hfe
      exact OutN.unit e1 h2 e2
    · rename_i hfe
      obtain ⟨w', e1, e2⟩ := mapUpdate_run hs.f hd hlb hx hk hkr hvr hfe
      exact OutN.unit e1 h2 e2
  · -- range
    rename_i t x hop
    simp only [execOp, hop]
    split at h <;> first | (cases h; done) | skip
    rename_i hd
    have hx := hs.ev x
    split at h <;> first | (cases h; done) | skip
    rename_i s he
    rw [he] at hx
    rw [pv_str hx]
    exact Out.next (range_out hs.f hd h)
  · -- next
    rename_i it isS hop
    simp only [execOp, hop]
    split at h <;> first | (cases h; done) | skip
    have hx := hs.ev it
    split at h <;> first | (cases h; done) | skip
    rename_i k he
    rw [he] at hx
    split at h <;> first | (cases h; done) | skip
    rename_i s pos hlb
    exact Out.next (next_out hs.f hx hlb h)
  · -- extract
    rename_i x i hop
    simp only [execOp, hop]
    have hx := hs.ev x
    split at h <;> first | (cases h; done) | skip
    rename_i vs he
    rw [he] at hx
    split at h <;> first | (cases h; done) | skip
    rename_i v hv
    obtain ⟨u, e1, e2⟩ := extract_run (P := P) hx hv w
    exact Out.next (Out.still e1 h e2 hs.f)
  · -- builtins
    rename_i c hop
    split at h <;> first | (cases h; done) | skip
    rename_i b hb
    have hc : PVsR m g (c.args.toList.map st.ev) (c.args.map a.eval).toList := by
      rw [Array.toList_map]; exact PVsR.evs hs c.args.toList
    have key : ∀ consts, OutN P E m g K r (builtin b c.argTypes o.type consts (c.args.map a.eval)) w := fun consts => builtin_out hs.f hc h
    simp only [execOp, hop, resolve, hb, invoke]
    exact key _
  · cases h

end Go.PM

set_option linter.unusedSectionVars false
namespace Go.PM
variable [LoopCodes]
variable {R : Type} {P : Program}

/-- What a call does to the memory of those who called. -/
structure Popped (m : Mem) (g : Gh) (fr : Frames) (w : World) (m' : Mem) (g' : Gh) (fr' : Frames) (w' : World) : Prop where
  p : PRel m' g' fr' w'
  step : Step m g fr w m' w'
  le : g.le g'
  len : fr'.length = fr.length
  old : ∀ d k lb' l' b, lbAt? fr' d k = some lb' → gAt g' d k = some l' → lb'.at_ l' = some b → b < w.heap.size → ∃ lb l, lbAt? fr d k = some lb ∧ gAt g d k = some l ∧ lb.at_ l = some b

theorem PRel.bare {m : Mem} {g : Gh} {fr : Frames} {w : World} (h : PRel m g fr w) : PRel m [] [] w where
  mem := h.mem
  len := rfl
  blk d k lb h0 := by simp [lbAt?] at h0
  excl d k d' k' lb lb' l l' b h0 := by simp [lbAt?] at h0
  dis d k lb l b o c h0 := by simp [lbAt?] at h0
  ghost d k l h0 := by simp [gAt] at h0

theorem Popped.lift {m m' : Mem} {g : Gh} {fr : Frames} {w w' : World} (h : PRel m g fr w) {g' : Gh} (hp : Popped m [] [] w m' g' [] w') : Popped m g fr w m' g fr w' := by
  have hb : ∀ b, b < w.heap.size → w'.heap[b]? = w.heap[b]? := fun b hb => hp.step.block b hb fun d k lb l h0 => by simp [lbAt?] at h0
  have hat : ∀ d k lb l b, lbAt? fr d k = some lb → gAt g d k = some l → lb.at_ l = some b → b < w.heap.size := fun d k lb l b h0 g0 a0 => by
    obtain ⟨l', g1, hr⟩ := h.blk d k lb h0
    rw [g0] at g1; cases g1
    exact hr.lt a0
  have hnew : ∀ b o c, m' b o = some c → m b o = none → w.heap.size ≤ b := fun b o c hc hm => by
    rcases hp.step.new b o c hc hm with h1 | ⟨d, k, lb, l, h0, _⟩
    · exact h1
    · simp [lbAt?] at h0
  refine ⟨⟨hp.p.mem, h.len, fun d k lb h0 => ?_, h.excl, fun d k lb l b o c h0 g0 a0 hc => ?_, h.ghost⟩, ⟨hp.step.le, fun b o c hc hm => .inl (hnew b o c hc hm), hp.step.os, hp.step.tape, hp.step.output, hp.step.size, fun b hb0 _ => hb b hb0⟩, Gh.le_refl _, rfl,
    fun d k lb l b h0 g0 a0 _ => ⟨lb, l, h0, g0, a0⟩⟩
  · obtain ⟨l, g0, hr⟩ := h.blk d k lb h0
    exact ⟨l, g0, hr.kept hp.step.le (Gh.le_refl _) rfl fun b hb0 => hb b (hr.lt hb0)⟩
  · cases hm : m b o with
    | some c' => exact h.dis d k lb l b o c' h0 g0 a0 hm
    | none =>
      have := hnew b o c hc hm
      have := hat d k lb l b h0 g0 a0
      omega

theorem FRel.popped {E : Entry} {m m' : Mem} {g g' : Gh} {fr fr' : Frames} {w w' : World} (h : FRel E m g fr w) (hp : Popped m g fr w m' g' fr' w') : FRel E m' g' fr' w' := by
  obtain ⟨loc, up, rfl, hlen⟩ := h.shape
  obtain ⟨gl, g0, rfl, hg0⟩ := h.gt
  obtain ⟨loc', up', rfl⟩ : ∃ loc' up', fr' = loc' :: up' := by
    cases fr' with
    | nil => have := hp.len; simp at this
    | cons a b => exact ⟨a, b, rfl⟩
  obtain ⟨gl', g0', rfl⟩ : ∃ gl' g0', g' = gl' :: g0' := by
    cases g' with
    | nil => have := hp.p.len; simp at this
    | cons a b => exact ⟨a, b, rfl⟩
  refine ⟨hp.p, ⟨Mem.le_trans h.step.le hp.step.le, fun b o c hc hn => ?_, hp.step.os.trans h.step.os, hp.step.tape.trans h.step.tape, hp.step.output.trans h.step.output, Nat.le_trans h.step.size hp.step.size, fun b hb hne => ?_⟩,
    ⟨_, _, rfl, fun d k l h0 => ?_⟩, ⟨loc', up', rfl, by have := hp.len; simp at this; omega⟩, fun d k lb l b h0 g1 a0 hb => ?_, fun b o hk => ?_⟩
  · cases hm : m b o with
    | some c' => exact h.step.new b o c' hm hn
    | none =>
      rcases hp.step.new b o c hc hm with h1 | ⟨d, k, lb, l, h0, g1, a0⟩
      · exact .inl (Nat.le_trans h.step.size h1)
      · rcases Nat.lt_or_ge b E.w.heap.size with hlt | hge
        · obtain ⟨d', lb0, l0, _, e1, e2, e3⟩ := h.old d k lb l b h0 g1 a0 hlt
          exact .inr ⟨d', k, lb0, l0, e1, e2, e3⟩
        · exact .inl hge
  · rw [hp.step.block b (Nat.lt_of_lt_of_le hb h.step.size) fun d k lb l h0 g1 a0 => ?_]
    · exact h.step.block b hb hne
    · obtain ⟨d', lb0, l0, rfl, e1, e2, e3⟩ := h.old d k lb l b h0 g1 a0 hb
      exact hne d' k lb0 l0 e1 e2 e3
  · obtain ⟨l1, h1, h2⟩ := hg0 d k l h0
    obtain ⟨l2, h3, h4⟩ := hp.le (d + 1) k l1 (by rw [gAt_cons_succ]; exact h1)
    rw [gAt_cons_succ] at h3
    exact ⟨l2, h3, ⟨h4.b.trans h2.b, h4.sz.trans h2.sz, h4.n.trans h2.n, fun r c x => h4.lv r c (h2.lv r c x)⟩⟩
  · obtain ⟨lb0, l0, h1, h2, h3⟩ := hp.old d k lb l b h0 g1 a0 (Nat.lt_of_lt_of_le hb h.step.size)
    exact h.old d k lb0 l0 b h1 h2 h3 hb
  · obtain ⟨h1, h2⟩ := h.kp b o hk
    have hlt := (Array.getElem?_eq_some_iff.1 h1).1
    refine ⟨(hp.step.block b hlt fun d k lb l h0 g1 a0 => h2 d k lb l h0 g1 a0).trans h1, fun d k lb l h0 g1 a0 => ?_⟩
    obtain ⟨lb0, l0, e1, e2, e3⟩ := hp.old d k lb l b h0 g1 a0 hlt
    exact h2 d k lb0 l0 e1 e2 e3

/-- A block that a call has left is the caller's from now on. -/
theorem FRel.adopt {E : Entry} {m : Mem} {gl : List (Option LG)} {g0 : Gh} {loc : List LB} {up : Frames} {w : World} (h : FRel E m (gl :: g0) (loc :: up) w) {ix : Nat} (hix : loc.getD ix .none = .none)
    {lb : LB} {l : LG} (hl : LBR m (setG gl ix l :: g0) w lb l) (hat : ∀ b, lb.at_ l = some b → E.w.heap.size ≤ b ∧ (∀ o, m b o = none) ∧ (∀ o, (b, o) ∉ E.keep) ∧ ∀ d k lb0 l0, lbAt? (loc :: up) d k = some lb0 → gAt (gl :: g0) d k = some l0 → lb0.at_ l0 ≠ some b) (hn : lb ≠ .none) :
    FRel E m (setG gl ix l :: g0) (setLoc loc ix lb :: up) w ∧ Gh.le (gl :: g0) (setG gl ix l :: g0) := by
  have hnone : lbAt? (loc :: up) 0 ix = none := by
    rw [lbAt?_eq]; unfold lbAt; simp only [List.getD_cons_zero, hix]
  have hgn : gAt (gl :: g0) 0 ix = none := by
    cases hg : gAt (gl :: g0) 0 ix with
    | none => rfl
    | some l0 => obtain ⟨lb0, h0⟩ := h.p.ghost 0 ix l0 hg; rw [hnone] at h0; cases h0
  have hle : Gh.le (gl :: g0) (setG gl ix l :: g0) := fun d k l0 h0 => by
    refine ⟨l0, ?_, l0.le_refl⟩
    rw [gAt_setG, if_neg]
    · exact h0
    · rintro ⟨rfl, rfl⟩; rw [hgn] at h0; cases h0
  have hled : ∀ d, Gh.le (List.drop d (gl :: g0)) (List.drop d (setG gl ix l :: g0)) := fun d e k l0 h0 => by
    rw [gAt_drop] at h0 ⊢; exact hle _ _ _ h0
  have look : ∀ d k lb0, lbAt? (setLoc loc ix lb :: up) d k = some lb0 → (d = 0 ∧ k = ix ∧ lb0 = lb) ∨ (¬ (d = 0 ∧ k = ix) ∧ lbAt? (loc :: up) d k = some lb0) := fun d k lb0 h0 => by
    rw [lbAt?_some, lbAt_setLoc] at h0
    by_cases e : d = 0 ∧ k = ix
    · rw [if_pos e] at h0; exact .inl ⟨e.1, e.2, h0.1.symm⟩
    · rw [if_neg e] at h0; exact .inr ⟨e, lbAt?_some.2 h0⟩
  have glook : ∀ d k, ¬ (d = 0 ∧ k = ix) → gAt (setG gl ix l :: g0) d k = gAt (gl :: g0) d k := fun d k e => by rw [gAt_setG, if_neg e]
  have gix : gAt (setG gl ix l :: g0) 0 ix = some l := by rw [gAt_setG, if_pos ⟨rfl, rfl⟩]
  refine ⟨⟨⟨h.p.mem, ?_, ?_, ?_, ?_, ?_⟩, h.step, ?_, ?_, ?_, ?_⟩, hle⟩
  · have := h.p.len; simpa using this
  · intro d k lb0 h0
    rcases look d k lb0 h0 with ⟨rfl, rfl, rfl⟩ | ⟨e, h0⟩
    · exact ⟨l, gix, hl⟩
    · obtain ⟨l0, hg, hr⟩ := h.p.blk d k lb0 h0
      exact ⟨l0, by rw [glook d k e]; exact hg, hr.kept (Mem.le_refl m) (hled d) rfl fun b _ => rfl⟩
  · intro d k d' k' lb0 lb1 l0 l1 b h0 g0 h1 g1 a0 a1
    rcases look d k lb0 h0 with ⟨e1, e2, e3⟩ | ⟨e, x0⟩
    · subst e1; subst e2; subst e3
      rw [gix] at g0; cases g0
      rcases look d' k' lb1 h1 with ⟨e1, e2, e3⟩ | ⟨e', x1⟩
      · exact ⟨e1.symm, e2.symm⟩
      · rw [glook d' k' e'] at g1
        exact absurd a1 ((hat b a0).2.2.2 _ _ _ _ x1 g1)
    · rw [glook d k e] at g0
      rcases look d' k' lb1 h1 with ⟨e1, e2, e3⟩ | ⟨e', x1⟩
      · subst e1; subst e2; subst e3
        rw [gix] at g1; cases g1
        exact absurd a0 ((hat b a1).2.2.2 _ _ _ _ x0 g0)
      · rw [glook d' k' e'] at g1
        exact h.p.excl _ _ _ _ _ _ _ _ b x0 g0 x1 g1 a0 a1
  · intro d k lb0 l0 b o c h0 g0 a0 hc
    rcases look d k lb0 h0 with ⟨rfl, rfl, rfl⟩ | ⟨e, h0⟩
    · rw [gix] at g0; cases g0
      have := (hat b a0).2.1 o
      rw [this] at hc; cases hc
    · rw [glook d k e] at g0
      exact h.p.dis _ _ _ _ _ _ _ h0 g0 a0 hc
  · intro d k l0 g0
    by_cases e : d = 0 ∧ k = ix
    · obtain ⟨rfl, rfl⟩ := e
      exact ⟨lb, lbAt?_some.2 ⟨by rw [lbAt_setLoc, if_pos ⟨rfl, rfl⟩], hn⟩⟩
    · rw [glook d k e] at g0
      obtain ⟨lb0, h0⟩ := h.p.ghost d k l0 g0
      exact ⟨lb0, by rw [lbAt?_some] at h0 ⊢; rw [lbAt_setLoc, if_neg e]; exact h0⟩
  · obtain ⟨gl', g0', e, h1⟩ := h.gt
    cases e
    exact ⟨_, _, rfl, h1⟩
  · obtain ⟨loc', up', e, h1⟩ := h.shape
    cases e
    exact ⟨_, _, rfl, h1⟩
  · intro d k lb0 l0 b h0 g1 a0 hb
    rcases look d k lb0 h0 with ⟨rfl, rfl, rfl⟩ | ⟨e, h0⟩
    · rw [gix] at g1; cases g1
      have := (hat b a0).1
      omega
    · rw [glook d k e] at g1
      exact h.old d k lb0 l0 b h0 g1 a0 hb
  · intro b o hk
    obtain ⟨h1, h2⟩ := h.kp b o hk
    refine ⟨h1, fun d k lb0 l0 h0 g1 a0 => ?_⟩
    rcases look d k lb0 h0 with ⟨rfl, rfl, rfl⟩ | ⟨e, h0⟩
    · rw [gix] at g1; cases g1
      exact (hat b a0).2.2.1 o hk
    · rw [glook d k e] at g1
      exact h2 d k lb0 l0 h0 g1 a0

/-- What a call hands back. -/
def RetR (m : Mem) (g : Gh) (fr : Frames) (w0 w : World) (v : PV) (mv : Option LB) (c : Value) : Prop :=
  match mv with
  | none => PVR m g v c
  | some lb => ∃ sz rows l a cap, lb = .arr sz rows ∧ v = .s (.sl 0 0 0 rows.length) ∧ (∀ g', LBR m g' w lb l) ∧ w0.heap.size ≤ l.b ∧ (∀ o, m l.b o = none) ∧
      (∀ d k lb0 l0, lbAt? fr d k = some lb0 → gAt g d k = some l0 → lb0.at_ l0 ≠ some l.b) ∧ c = .slice (some a) rows.length cap ∧ rows.length ≤ cap ∧ (0 < l.n → a = ⟨l.b, 0, none⟩ ∧ l.n ≤ cap)

/-- A function that may be entered. -/
def Enters (P : Program) (f : FuncId) : Prop := ∃ fn, P.funcs[f]? = some fn ∧ fn.body.isNone = false ∧ (fn.name == "runtime.NumGoroutine") = false

/-- PM's call answers as the model's. -/
def FnOK (P : Program) (fn : FuncId → List PV → Frames → (PV → Option LB → Frames → Option R) → Option R) : Prop :=
  ∀ f args fr K r, fn f args fr K = some r → Enters P f ∧ ∀ (m : Mem) (g : Gh) (w : World) (cs : List Value), PRel m g fr w → (∀ gl, PVsR m (gl :: g) args cs) →
    Calls P f cs.toArray w fun e w' => ∃ c m' g' v mv fr', e = .returned c ∧ K v mv fr' = some r ∧ Popped m g fr w m' g' fr' w' ∧ RetR m' g' fr' w w' v mv c

/-- A call of yield: the round that it asks for. -/
def YldOK (P : Program) (yld : Nat → Nat → List PV → Frames → (PV → Frames → Option R) → Option R) : Prop :=
  ∀ d k args fr K r, yld d k args fr K = some r → ∀ (m : Mem) (g : Gh) (w : World) (cs : List Value), PRel m g fr w → (∀ gl, PVsR m (gl :: g) args cs) → ∀ l, gAt g d k = some l →
    ∃ fn tmps assign body, (Instr.yield l.b cs.toArray).run P w = .ok (.round l.b fn tmps assign body) w ∧
      RoundIn Fence.wide 0 P l.b fn tmps assign body w fun e w' => ∃ c m' g' v fr', e = .returned c ∧ K v fr' = some r ∧ Popped m g fr w m' g' fr' w' ∧ PVR m' g' v c

structure CallOK (P : Program) (call : CallF R) : Prop where
  fn : FnOK P call.fn
  yld : YldOK P call.yld

theorem toArg_rel {m : Mem} {g : Gh} {v : PV} {c : Value} (h : PVR m g v c) (gl : List (Option LG)) : PVR m (gl :: g) (toArg v) c := by
  cases v with
  | agg cs =>
    obtain ⟨us, e, h1, h2, h3⟩ := h
    refine ⟨us, e, by simpa [toArg] using h1, h2, fun i s u a b => ?_⟩
    rw [List.getElem?_map] at a
    cases hs : cs[i]? with
    | none => simp [hs] at a
    | some s0 =>
      simp [hs] at a
      subst a
      exact SV.shift_rel (d := 1) (by simpa using h3 i s0 u hs b)
  | s v =>
    have hd : SVR m ((gl :: g).drop 1) v c := h
    cases v with
    | tsl sz rows d k => exact tsl_ro h
    | _ => exact SV.shift_rel (d := 1) (g := gl :: g) hd

theorem capTo_rel {m : Mem} {g : Gh} {cv : List CV} {cs : List Value} (hl : cs.length = cv.length) (hr : ∀ (i : Nat) (v : CV) (u : Value), cv[i]? = some v → cs[i]? = some u → CVR m g v u) (gl : List (Option LG)) :
    PVsR m (gl :: g) (cv.map fun c => (CV.shift 1 c).toPV) cs :=
  ⟨by simpa using hl, fun i v u a b => by
    rw [List.getElem?_map] at a
    cases hs : cv[i]? with
    | none => simp [hs] at a
    | some s0 =>
      simp [hs] at a
      subst a
      have := CV.shift_rel (d := 1) (g := gl :: g) (by simpa using hr i s0 u hs b)
      cases s0 <;> exact this⟩

theorem capRo_rel {m : Mem} {cv : List RV} {cs : List Value} (hl : ListR m cv cs) (g : Gh) : PVsR m g (cv.map PV.ro) cs :=
  ⟨by simpa using hl.length, fun i v u a b => by
    rw [List.getElem?_map] at a
    cases hs : cv[i]? with
    | none => simp [hs] at a
    | some s0 =>
      simp [hs] at a
      subst a
      obtain ⟨u', h1, h2⟩ := hl.get hs
      rw [b] at h1; cases h1
      exact h2⟩

theorem allRoP_rel {m : Mem} : ∀ {args : List PV}, allRoP args = true → ∀ {g g' : Gh} {cs : List Value}, PVsR m g args cs → PVsR m g' args cs
  | [], _, g, g', cs, h => ⟨h.1, fun i v u a => by simp at a⟩
  | .s (.ro v) :: args, hro, g, g', cs, h => by
    obtain ⟨c, cs', rfl, h1, h2⟩ := h.uncons
    exact PVsR.cons h1 (allRoP_rel (by simpa [allRoP] using hro) h2)
  | .s (.ptr ..) :: _, hro, _, _, _, _ | .s (.sl ..) :: _, hro, _, _, _, _ | .s (.tsl ..) :: _, hro, _, _, _, _ | .s (.mp ..) :: _, hro, _, _, _, _ | .s (.it _) :: _, hro, _, _, _, _ | .s (.fn ..) :: _, hro, _, _, _, _ | .s .undef :: _, hro, _, _, _, _ | .agg _ :: _, hro, _, _, _, _ => by simp [allRoP] at hro

/-- What is taken up from a call. -/
theorem adopt_out {E : Entry} {m m' : Mem} {g g1 : Gh} {fr fr' : Frames} {w w' : World} (hf : FRel E m g fr w) (hp : Popped m g fr w m' g1 fr' w') {v : PV} {mv : Option LB} {c : Value} {ix : Nat} {K : PV → Frames → Option R} {r : R}
    (h : (match mv with
      | none => K v fr'
      | some b => allocK fr' ix b fun fr => K (match v with | .s (.sl _ _ _ len) => .s (.sl 0 ix 0 len) | v => v) fr) = some r) (hr : RetR m' g1 fr' w w' v mv c) :
    ∃ g' v fr'', K v fr'' = some r ∧ PVR m' g' v c ∧ FRel E m' g' fr'' w' ∧ g.le g' := by
  have hf' := hf.popped hp
  cases mv with
  | none => exact ⟨g1, v, fr', h, hr, hf', hp.le⟩
  | some lb =>
    obtain ⟨sz, rows, l, a, cap, rfl, rfl, h1, h2, h3, h4, rfl, h5, h6⟩ := hr
    obtain ⟨loc, up, rfl, hix, hK⟩ := allocK_some h
    obtain ⟨gl, g0, rfl, hg0⟩ := hf'.gt
    obtain ⟨f, hle⟩ := hf'.adopt hix (lb := .arr sz rows) (l := l) (h1 _) (fun b hb => by
      cases hb
      exact ⟨Nat.le_trans hf.step.size h2, h3, fun o hk => by have := (Array.getElem?_eq_some_iff.1 (hf.kp _ _ hk).1).1; omega, h4⟩) (by simp)
    have hn := (h1 (setG gl ix l :: g0)).1
    refine ⟨_, _, _, hK, ⟨l, a, cap, by rw [gAt_setG, if_pos ⟨rfl, rfl⟩], rfl, h5, fun h0 => ?_, fun _ => by omega⟩, f, Gh.le_trans hp.le hle⟩
    obtain ⟨e1, e2⟩ := h6 h0
    exact ⟨by simpa using e1, by omega⟩

theorem RV.flat1_rel {m m' : Mem} : ∀ {v : RV} {c : Value}, v.flat1 = true → VRr m v c → VRr m' v c
  | .int .., _, _, h | .bool .., _, _, h | .str .., _, _, h | .nilp, _, _, h | .nils, _, _, h => by simpa [VRr] using h
  | .nilm, _, hf, _ | .nilf, _, hf, _ | .vptr .., _, hf, _ | .vsl .., _, hf, _ | .esl, _, hf, _ | .fn .., _, hf, _ | .agg .., _, hf, _ | .tup .., _, hf, _ => by cases hf
theorem RV.flats_rel {m m' : Mem} : ∀ {vs : List RV} {cs : List Value}, vs.all RV.flat1 = true → ListR m vs cs → ListR m' vs cs
  | [], cs, _, h => by simpa [ListR] using h
  | v :: vs, cs, hf, h => by
    simp only [ListR] at h ⊢
    obtain ⟨c, cs', e, h1, h2⟩ := h
    simp only [List.all_cons, Bool.and_eq_true] at hf
    exact ⟨c, cs', e, RV.flat1_rel hf.1 h1, RV.flats_rel hf.2 h2⟩
theorem RV.flat_rel {m m' : Mem} {v : RV} {c : Value} (hf : v.flat = true) (h : VRr m v c) : VRr m' v c := by
  cases v with
  | tup vs =>
    simp only [VRr] at h ⊢
    obtain ⟨cs, e, h1⟩ := h
    exact ⟨cs, e, RV.flats_rel hf h1⟩
  | agg vs =>
    simp only [VRr] at h ⊢
    obtain ⟨cs, e, h1, h2⟩ := h
    exact ⟨cs, e, RV.flats_rel hf h1, h2⟩
  | _ => exact RV.flat1_rel hf h
theorem pvFlat_rel {m m' : Mem} {g g' : Gh} {v : PV} {c : Value} (hf : pvFlat v = true) (h : PVR m g v c) : PVR m' g' v c := by
  unfold pvFlat at hf
  split at hf
  · exact RV.flat_rel hf h
  · cases hf
/-- Memory as it stands. -/
def memNow (w : World) : Mem := fun b o => w.cell? ⟨b, o, none⟩
theorem viewK_some {fr : Frames} : ∀ {args : List PV} {K : List PV → Option R} {r : R}, viewK fr args K = some r → ∃ vs, K vs = some r ∧ (∀ (K' : List PV → Option R) r', K' vs = some r' → viewK fr args K' = some r') ∧
    ∀ (m : Mem) (g : Gh) (w : World) (cs : List Value), PRel m g fr w → (∀ gl, PVsR m (gl :: g) args cs) → ∀ g', PVsR (memNow w) g' vs cs
  | [], K, r, h => ⟨[], h, fun K' r' hk => hk, fun m g w cs hp hc g' => ⟨(hc []).1, fun i v u a => by simp at a⟩⟩
  | v :: args, K, r, h => by
    unfold viewK at h
    split at h <;> first | (cases h; done) | skip
    · rename_i x
      obtain ⟨vs, h1, h2, h3⟩ := viewK_some h
      refine ⟨_, h1, fun K' r' hk => by unfold viewK; exact h2 _ r' hk, fun m g w cs hp hc g' => ?_⟩
      obtain ⟨c, cs', rfl, q1, q2⟩ := (hc []).uncons
      refine PVsR.cons (VRr.mono hp.mem _ _ q1) (h3 m g w cs' hp (fun gl => ?_) g')
      obtain ⟨c', cs'', e, _, q4⟩ := (hc gl).uncons
      cases e; exact q4
    · rename_i d k off len
      split at h <;> first | (cases h; done) | skip
      rename_i sz rows hlb
      obtain ⟨vs, h1, h2, h3⟩ := viewK_some h
      refine ⟨_, h1, fun K' r' hk => by unfold viewK; simp only [hlb]; exact h2 _ r' hk, fun m g w cs hp hc g' => ?_⟩
      obtain ⟨c, cs', rfl, q1, q2⟩ := (hc []).uncons
      refine PVsR.cons ?_ (h3 m g w cs' hp (fun gl => ?_) g')
      · obtain ⟨l, a, cap, e1, rfl, e3, e4, e5⟩ := q1
        have e1' : gAt g d k = some l := by simpa [gAt] using e1
        have hlb' : lbAt? fr d k = some (.arr sz rows) := by
          unfold lbAt at hlb
          unfold lbAt?
          simp only [List.getD_eq_getElem?_getD] at hlb
          cases hd : fr[d]? with
          | none => simp [hd] at hlb
          | some loc =>
            simp only [hd, Option.getD_some] at hlb
            cases hk : loc[k]? with
            | none => simp [hk] at hlb
            | some b => simp only [hk, Option.getD_some] at hlb; subst hlb; simp [hk]
        obtain ⟨l', e6, e7⟩ := hp.blk d k _ hlb'
        rw [e1'] at e6; cases e6
        obtain ⟨n1, n2, n3, carr, E, n4, n5⟩ := e7
        have hlen : ((rows.drop off).take len).length = len := by
          by_cases hz : len = 0
          · simp [hz]
          · have := e5 hz; simp; omega
        show VRr _ (.vsl sz ((rows.drop off).take len)) _
        simp only [VRr]
        refine ⟨a, cap, by rw [hlen], by rw [hlen]; exact e3, fun hne => ?_, RowsR.of_get fun i row hi => ?_⟩
        · have hl0 : len ≠ 0 := fun e => hne (by simp [e])
          have := e5 hl0
          rw [(e4 (by omega)).1]
        · have hi' : i < len := by
            have := (List.getElem?_eq_some_iff.1 hi).1
            omega
          have hl0 : len ≠ 0 := by omega
          have := e5 hl0
          have ha := (e4 (by omega)).1
          have hrow : rows[off + i]? = some row := by
            rw [List.getElem?_take, if_pos hi', List.getElem?_drop] at hi
            exact hi
          have hrl := n3 row (List.mem_of_getElem? hrow)
          refine ⟨hrl, RowR.of_get fun j v hj => ?_⟩
          obtain ⟨u, u1, u2, u3⟩ := n5 (off + i) row j v hrow hj
          refine ⟨u, ?_, u2, VRr.mono hp.mem _ _ u3⟩
          rw [ha]
          simp only [memNow, n2]
          have e8 : off * sz + i * sz + j = (off + i) * sz + j := by rw [Nat.add_mul]
          rw [e8]
          unfold World.cell?
          simp [n4, u1]
      · obtain ⟨c', cs'', e, _, q4⟩ := (hc gl).uncons
        cases e; exact q4
theorem vsl_of_sl {m : Mem} {l : LG} {sz : Nat} {rows : List (List RV)} (n1 : l.n = rows.length) (n2 : l.sz = sz) (hr : RowsR m l.b sz 0 rows) {off len cap : Nat} {a : Addr} (e3 : len ≤ cap) (e4 : off < l.n → a = ⟨l.b, off * l.sz, none⟩ ∧ l.n ≤ off + cap) (e5 : len ≠ 0 → off + len ≤ l.n) :
    VRr m (.vsl sz ((rows.drop off).take len)) (.slice (some a) len cap) := by
  have hlen : ((rows.drop off).take len).length = len := by
    by_cases hz : len = 0
    · simp [hz]
    · have := e5 hz; simp; omega
  simp only [VRr]
  refine ⟨a, cap, by rw [hlen], by rw [hlen]; exact e3, fun hne => ?_, RowsR.of_get fun i row hi => ?_⟩
  · have hl0 : len ≠ 0 := fun e => hne (by simp [e])
    have := e5 hl0
    rw [(e4 (by omega)).1]
  · have hi' : i < len := by
      have := (List.getElem?_eq_some_iff.1 hi).1
      omega
    have hl0 : len ≠ 0 := by omega
    have := e5 hl0
    have ha := (e4 (by omega)).1
    have hrow : rows[off + i]? = some row := by
      rw [List.getElem?_take, if_pos hi', List.getElem?_drop] at hi
      exact hi
    obtain ⟨q1, q2⟩ := hr.get hrow
    refine ⟨q1, ?_⟩
    rw [ha]
    simp only [n2]
    rw [Nat.zero_add, Nat.add_mul] at q2
    exact q2
/-- A slice's block is frozen. -/
theorem FRel.freezeArr {E : Entry} {m : Mem} {g : Gh} {fr : Frames} {w : World} (hf : FRel E m g fr w) {k sz : Nat} {rows : List (List RV)} (hlb : lbAt fr 0 k = .arr sz rows) :
    ∃ m' l, gAt g 0 k = some l ∧ l.n = rows.length ∧ l.sz = sz ∧ FRel E m' g (setAt fr 0 k (.froz sz rows)) w ∧ m.le m' ∧ RowsR m' l.b sz 0 rows := by
  obtain ⟨hlb0, l, hg, hr⟩ := lbAt_blk hf.p hlb (by simp)
  obtain ⟨n1, n2, n3, c, Et, hh, hc⟩ := hr
  let m' : Mem := fun b o => if b = l.b then c[o]? else m b o
  have hle : m.le m' := fun b o u hu => by
    show (if _ then _ else _) = _
    rw [if_neg]
    · exact hu
    · rintro rfl
      obtain ⟨sz, n, e, _⟩ := hf.p.dis 0 k _ l l.b o u hlb0 hg rfl hu
      cases e
  have hrows : RowsR m' l.b sz 0 rows := RowsR.of_get fun i row hi => ⟨n3 row (List.mem_of_getElem? hi), RowR.of_get fun j v hj => by
    obtain ⟨u, a, b, d⟩ := hc i row j v hi hj
    refine ⟨u, ?_, b, VRr.mono hle _ _ d⟩
    rw [Nat.zero_add]
    exact (if_pos rfl).trans a⟩
  refine ⟨m', l, hg, n1, n2, hf.freeze hlb0 hg rfl rfl (by simp) hle (fun b o u hu => ?_) ⟨n1, n2, hrows⟩, hle, hrows⟩
  by_cases e : b = l.b
  · subst e
    refine .inr ⟨rfl, ?_⟩
    rw [cell_of_row _ _ o c Et (0, 0) hh]
    exact (if_pos rfl).symm.trans hu
  · exact .inl ((if_neg e).symm.trans hu)
theorem sealOwn_some {v : PV} {fr : Frames} {K : PV → Frames → Option R} {r : R} (h : sealOwn v fr K = some r) : ∀ {E : Entry} {m : Mem} {g : Gh} {w : World} {c : Value}, FRel E m g fr w → PVR m g v c →
    ∃ m' v' fr', K v' fr' = some r ∧ PVR m' g v' c ∧ FRel E m' g fr' w ∧ m.le m' := fun {E m g w c} hf hv => by
  unfold sealOwn at h
  split at h
  · rename_i k off len
    split at h <;> first | (cases h; done) | skip
    rename_i sz rows hlb
    obtain ⟨m', l, hg, n1, n2, hf', hle, hr⟩ := hf.freezeArr hlb
    obtain ⟨l', a, cap, e1, rfl, e3, e4, e5⟩ := hv
    rw [hg] at e1; cases e1
    exact ⟨m', _, _, h, vsl_of_sl n1 n2 hr e3 e4 e5, hf', hle⟩
  · exact ⟨m, v, fr, h, hv, hf, Mem.le_refl _⟩
theorem takeK_some {sl : Bool} {ix : Nat} {v : PV} {b : LB} {fr : Frames} {K : PV → Frames → Option R} {r : R} (h : takeK sl ix v b fr K = some r) {E : Entry} {m m' : Mem} {g g1 : Gh} {fr0 : Frames} {w w' : World} {c : Value} (hf : FRel E m g fr0 w) (hp : Popped m g fr0 w m' g1 fr w')
    (hr : RetR m' g1 fr w w' v (some b) c) : ∃ m'' g' v' fr'', K v' fr'' = some r ∧ PVR m'' g' v' c ∧ FRel E m'' g' fr'' w' ∧ m'.le m'' ∧ g.le g' := by
  cases sl with
  | false =>
    obtain ⟨g', v', fr'', q1, q2, q3, q4⟩ := adopt_out (mv := some b) (v := v) (K := K) (ix := ix) hf hp h hr
    exact ⟨m', g', v', fr'', q1, q2, q3, Mem.le_refl _, q4⟩
  | true =>
    have hf' := hf.popped hp
    obtain ⟨sz, rows, l, a, cap, rfl, rfl, h1, h2, h3, h4, rfl, h5, h6⟩ := hr
    simp only [takeK] at h
    obtain ⟨loc, up, rfl, hix, hK⟩ := allocK_some h
    obtain ⟨gl, g0, rfl, hg0⟩ := hf'.gt
    obtain ⟨f, hle⟩ := hf'.adopt hix (lb := .arr sz rows) (l := l) (h1 _) (fun b hb => by
      cases hb
      exact ⟨Nat.le_trans hf.step.size h2, h3, fun o hk => by have := (Array.getElem?_eq_some_iff.1 (hf.kp _ _ hk).1).1; omega, h4⟩) (by simp)
    obtain ⟨m'', l', hg, n1, n2, f', hm, hr⟩ := f.freezeArr (k := ix) (sz := sz) (rows := rows) (by rw [lbAt_setLoc, if_pos ⟨rfl, rfl⟩])
    rw [gAt_setG, if_pos ⟨rfl, rfl⟩] at hg
    cases hg
    rw [setAt_cons_zero, setLoc_twice] at f'
    have hv := vsl_of_sl n1 n2 hr (off := 0) (len := rows.length) (cap := cap) (a := a) h5 (fun h0 => by
      obtain ⟨e1, e2⟩ := h6 h0
      exact ⟨by rw [e1]; simp, by omega⟩) (fun _ => by omega)
    simp only [List.drop_zero, List.take_length] at hv
    exact ⟨m'', _, _, _, hK, hv, f', hm, Gh.le_trans hp.le hle⟩
theorem callK_some {vw sl : Bool} {call : CallF R} (hC : CallOK P call) {base : Option Nat} {f : FuncId} {args : List PV} {ix : Nat} {fr : Frames} {K : PV → Frames → Option R} {r : R} (h : callK vw sl call base f args ix fr K = some r) :
    Enters P f ∧ ∀ (E : Entry) (m : Mem) (g : Gh) (w : World) (cs : List Value), FRel E m g fr w → (∀ gl, PVsR m (gl :: g) args cs) →
      Calls P f cs.toArray w fun e w' => ∃ c m' g' v fr', e = .returned c ∧ K v fr' = some r ∧ PVR m' g' v c ∧ FRel E m' g' fr' w' ∧ m.le m' ∧ g.le g' := by
  unfold callK at h
  split at h
  · rename_i hro
    obtain ⟨h1, h2⟩ := hC.fn _ _ _ _ _ h
    refine ⟨h1, fun E m g w cs hf hc => (h2 m [] w cs hf.p.bare fun gl => allRoP_rel hro (hc [])).mono ?_⟩
    rintro e w' ⟨c, m', g1, v, mv, fr', rfl, hK, hp, hr⟩
    have hnil : fr' = [] := List.eq_nil_of_length_eq_zero hp.len
    subst hnil
    have hp' := hp.lift hf.p
    have hr' : RetR m' g fr w w' v mv c := by
      cases mv with
      | none => exact PVR.mono (Mem.le_refl _) (fun d k l h0 => by have hg1 := hp.p.len; simp at hg1; subst hg1; simp [gAt] at h0) hr
      | some lb =>
        obtain ⟨sz, rows, l, a, cap, e1, e2, e3, e4, e5, e6, e7⟩ := hr
        refine ⟨sz, rows, l, a, cap, e1, e2, e3, e4, e5, fun d k lb0 l0 h0 g0 a0 => ?_, e7⟩
        obtain ⟨l1, g1, hr1⟩ := hf.p.blk d k lb0 h0
        rw [g0] at g1; cases g1
        have := hr1.lt a0
        omega
    cases mv with
    | none => exact ⟨c, m', g, v, fr, rfl, hK, hr', hf.popped hp', hp.step.le, Gh.le_refl _⟩
    | some lb =>
      obtain ⟨m'', g', v', fr'', q1, q2, q3, q4, q5⟩ := takeK_some hK hf hp' hr'
      exact ⟨c, m'', g', v', fr'', rfl, q1, q2, q3, Mem.le_trans hp.step.le q4, q5⟩
  · split at h
    · cases h
    split at h
    · obtain ⟨vs, k1, k2, k3⟩ := viewK_some h
      obtain ⟨h1, h2⟩ := hC.fn _ _ _ _ _ k1
      refine ⟨h1, fun E m g w cs hf hc => (h2 (memNow w) [] w cs ⟨fun _ _ _ h => h, rfl, fun d k lb h0 => by simp [lbAt?] at h0, fun d k d' k' lb lb' l l' b h0 => by simp [lbAt?] at h0, fun d k lb l b o c h0 => by simp [lbAt?] at h0, fun d k l h0 => by simp [gAt] at h0⟩ fun gl => k3 m g w cs hf.p hc _).mono ?_⟩
      rintro e w' ⟨c, m', g1, v, mv, fr', rfl, hK, hp, hr⟩
      split at hK <;> first | (cases hK; done) | skip
      rename_i hfl
      have hb : ∀ b, b < w.heap.size → w'.heap[b]? = w.heap[b]? := fun b hb => hp.step.block b hb fun d k lb l h0 => by simp [lbAt?] at h0
      have hmem : ∀ b o c, m b o = some c → w'.cell? ⟨b, o, none⟩ = some c := fun b o c hm => hp.p.mem b o c (hp.step.le b o c (hf.p.mem b o c hm))
      have hp0 : Popped m [] [] w m [] [] w' := ⟨⟨hmem, rfl, fun d k lb h0 => by simp [lbAt?] at h0, fun d k d' k' lb lb' l l' b h0 => by simp [lbAt?] at h0, fun d k lb l b o c h0 => by simp [lbAt?] at h0, fun d k l h0 => by simp [gAt] at h0⟩,
        ⟨Mem.le_refl _, fun b o c h1 h2 => (by rw [h1] at h2; cases h2), hp.step.os, hp.step.tape, hp.step.output, hp.step.size, fun b hb0 _ => hb b hb0⟩, Gh.le_refl _, rfl, fun d k lb' l' b h0 => by simp [lbAt?] at h0⟩
      have hp' := hp0.lift hf.p
      exact ⟨c, m, g, v, fr, rfl, hK, pvFlat_rel hfl hr, hf.popped hp', Mem.le_refl _, Gh.le_refl _⟩
    · obtain ⟨h1, h2⟩ := hC.fn _ _ _ _ _ h
      refine ⟨h1, fun E m g w cs hf hc => (h2 m g w cs hf.p hc).mono ?_⟩
      rintro e w' ⟨c, m', g1, v, mv, fr', rfl, hK, hp, hr⟩
      cases mv with
      | none =>
        simp only at hK
        split at hK
        · obtain ⟨m'', v', fr'', q1, q2, q3, q4⟩ := sealOwn_some hK (hf.popped hp) hr
          exact ⟨c, m'', g1, v', fr'', rfl, q1, q2, q3, Mem.le_trans hp.step.le q4, hp.le⟩
        · exact ⟨c, m', g1, v, fr', rfl, hK, hr, hf.popped hp, hp.step.le, hp.le⟩
      | some lb =>
        obtain ⟨m'', g', v', fr'', q1, q2, q3, q4, q5⟩ := takeK_some hK hf hp hr
        exact ⟨c, m'', g', v', fr'', rfl, q1, q2, q3, Mem.le_trans hp.step.le q4, q5⟩

end Go.PM

set_option linter.unusedSectionVars false
namespace Go.PM
variable [LoopCodes]
variable {R : Type} {P : Program}

theorem SRel.put {E : Entry} {m m' : Mem} {g g' : Gh} {st : St} {a : Act} {w w' : World} (h : SRel E m g st a w) {fr' : Frames} (hf : FRel E m' g' fr' w') (hm : m.le m') (hg : g.le g') {v : PV} {c : Value} (hv : PVR m' g' v c) (d : Option Tmp) :
    SRel E m' g' ⟨putT st.tmps d v, fr'⟩ (a.put d c) w' := by
  cases d with
  | none => exact ⟨hf, h.len, fun i u c a b => (h.tmps i u c a b).mono hm hg, h.dfr⟩
  | some t =>
    refine ⟨hf, by simp [putT, Act.put, h.len], fun i u c' x y => ?_, h.dfr⟩
    simp only [putT, List.getElem?_set] at x
    simp only [Act.put, Array.getElem?_setIfInBounds] at y
    by_cases e : t = i
    · subst e
      simp only [if_true] at x y
      split at x
      · split at y
        · cases x; cases y; exact hv
        · cases y
      · cases x
    · simp only [e, if_false] at x y
      exact (h.tmps i u c' x y).mono hm hg

/-- The fence without bounds, in a round or not. -/
abbrev FF (ro : Option Nat) : Fence := { Fence.wide with round := ro }

theorem OutN.wp {E : Entry} {m : Mem} {g : Gh} {K : PV → Frames → Option R} {r : R} {o : Oper} {a : Act} {w : World} {ro : Option Nat} {n : Nat} (hnd : ∀ c, o.op ≠ .defer c) (h : OutN P E m g K r (execOp a.eval o) w) {next : Act → World → Prop} {Q : Exit → Act → World → Prop}
    (hn : ∀ c v m' g' fr' w', K v fr' = some r → PVR m' g' v c → FRel E m' g' fr' w' → m.le m' → g.le g' → next (a.put o.dst c) w') : o.wpIn (FF ro) n P a w next Q := by
  obtain ⟨nx, c, w', m', g', v, fr', h1, h2, h3, h4, h5, h6, h7⟩ := h
  refine ⟨fun _ _ => trivial, ?_⟩
  rw [show (FF ro).round = ro from rfl, Oper.semAt_eq ro _ _ hnd, h1]
  rcases h2 with rfl | ⟨rfl, rfl⟩
  · exact hn c v m' g' fr' w' h3 h4 h5 h6 h7
  · exact hn undef v m' g' fr' w' h3 h4 h5 h6 h7

theorem enter_run {f : FuncId} (h : Enters P f) (args : Array Value) (w : World) : (callFunc f args).run P w = .ok (.enter f args) w := by
  obtain ⟨fn, h1, h2, h3⟩ := h
  have h2' : ¬ fn.body = none := fun e => by simp [e] at h2
  have h3' : ¬ fn.name = "runtime.NumGoroutine" := fun e => by simp [e] at h3
  simp [callFunc, h1, h2', h3']

theorem opK_wp {hh : Hint} (hE : EqOK P hh) {call : CallF R} (hC : CallOK P call) {E : Entry} {m : Mem} {g : Gh} {st : St} {a : Act} {w : World} {ro : Option Nat} {n : Nat} (hs : SRel E m g st a w) {f : FuncId} {base : Option Nat} {o : Oper} {ix : Nat} {K : PV → Frames → Option R} {r : R}
    (h : opK P hh f call base o ix st K = some r) {next : Act → World → Prop} {Q : Exit → Act → World → Prop}
    (hn : ∀ c v m' g' fr' w', K v fr' = some r → PVR m' g' v c → FRel E m' g' fr' w' → m.le m' → g.le g' → next (a.put o.dst c) w') : o.wpIn (FF ro) n P a w next Q := by
  have hnd : ∀ c, o.op ≠ .defer c := fun c e => by simp [opK, execK, e] at h
  have key : ∀ (c : Call) (x : Operand) (gf : FuncId) (cs : List Value) (args : List PV), o.op = .call c → c.callee = .value x → a.eval x = .func (.func gf) #[] cs.toArray →
      callK (hh.view f (o.dst.getD 0)) (hh.shut f (o.dst.getD 0)) call base gf args ix st.fr K = some r → (∀ gl, PVsR m (gl :: g) args ((c.args.toList.map a.eval) ++ cs)) → o.wpIn (FF ro) n P a w next Q := fun c x gf cs args hop hcal hx hk hargs => by
    obtain ⟨h1, h2⟩ := callK_some hC hk
    have h3 := h2 E m g w _ hs.f hargs
    have hrun : (execOp a.eval o).run P w = .ok (.enter gf ((c.args.toList.map a.eval) ++ cs).toArray) w := by
      have e0 : (#[] ++ c.args.map a.eval ++ cs.toArray : Array Value) = ((c.args.toList.map a.eval) ++ cs).toArray := by
        apply Array.ext'; simp
      simp only [execOp, hop, resolve, hcal, hx, Deferred.ofValue, Sem.run_bind, Sem.run_pure, Result.andThen_ok, invoke, e0]
      exact enter_run h1 _ w
    refine ⟨fun _ _ => trivial, ?_⟩
    rw [show (FF ro).round = ro from rfl, Oper.semAt_eq ro _ _ hnd, hrun, Oper.uponIn_enter]
    refine ⟨fun hd => by simp [Fence.wide] at hd, ?_⟩
    have h4 := callsIn_wide (n := n - 1).2 h3
    refine CallsIn.mono (F := FF ro) h4 ?_
    rintro e w' ⟨c', m', g', v, fr', rfl, q1, q2, q3, q4, q5⟩
    exact hn c' v m' g' fr' w' q1 q2 q3 q4 q5
  have hargs : ∀ (l : List Operand) gl, PVsR m (gl :: g) (l.map fun x => toArg (st.ev x)) (l.map a.eval) := fun l gl => by
    induction l with
    | nil => exact PVsR.nil _ _
    | cons x l ih => exact PVsR.cons (toArg_rel (hs.ev x) gl) ih
  unfold opK at h
  split at h
  · rename_i c hop
    split at h
    · rename_i x hcal
      have hx := hs.ev x
      split at h <;> first | (cases h; done) | skip
      all_goals (rename_i he; rw [he] at hx)
      · simp only [PVR, SVR, VRr] at hx
        obtain ⟨cs, e1, e2⟩ := hx
        exact key c x _ cs _ hop hcal e1 h fun gl => (hargs _ gl).append (capRo_rel e2 _)
      · obtain ⟨cs, e1, e2, e3⟩ := hx
        exact key c x _ cs _ hop hcal e1 h fun gl => (hargs _ gl).append (capTo_rel e2 e3 gl)
      · obtain ⟨l, hl, e1⟩ := hx
        split at h <;> first | (cases h; done) | skip
        obtain ⟨fn, tmps, assign, body, hy, hR⟩ := hC.yld _ _ _ _ _ _ h m g w (c.args.toList.map a.eval) hs.f.p (fun gl => hargs _ gl) l hl
        have hrun : (execOp a.eval o).run P w = .ok (.round l.b fn tmps assign body) w := by
          have e0 : (#[] ++ c.args.map a.eval ++ #[] : Array Value) = (c.args.toList.map a.eval).toArray := by
            apply Array.ext'; simp
          rw [← e0] at hy
          simp only [execOp, hop, resolve, hcal, e1, Deferred.ofValue, Sem.run_bind, Sem.run_pure, Result.andThen_ok, invoke]
          exact hy
        refine ⟨fun _ _ => trivial, ?_⟩
        rw [show (FF ro).round = ro from rfl, Oper.semAt_eq ro _ _ hnd, hrun, Oper.uponIn_round]
        refine ⟨fun hd => by simp [Fence.wide] at hd, ?_⟩
        have hR' : RoundIn (FF ro) (n - 1) P l.b fn tmps assign body w _ := ⟨trivial, fun c cs _ => hR.2 c cs (room_wide _)⟩
        refine hR'.mono ?_
        rintro e w' ⟨c', m', g', v, fr', rfl, q1, q2, q3⟩
        exact hn c' v m' g' fr' w' q1 q3 (hs.f.popped q2) q2.step.le q2.le
    · exact (execK_out hE hs h).wp hnd hn
  · exact (execK_out hE hs h).wp hnd hn

theorem guardK_some {ops : Array Oper} {o : Oper} {E : Entry} {m : Mem} {g : Gh} {st : St} {a : Act} {w : World} (hs : SRel E m g st a w) {KA KB : St → Option R} {r : R} (h : guardK ops o st KA KB = some r) :
    ∃ st', SRel E m g st' a w ∧ ((Region.wanted o (yielded ops a.tmps) = true ∧ KA st' = some r) ∨ (Region.wanted o (yielded ops a.tmps) = false ∧ KB st' = some r)) := by
  unfold guardK at h
  split at h
  · rename_i hg
    exact ⟨st, hs, .inl ⟨by simp [Region.wanted, hg], h⟩⟩
  · rename_i j want hg
    split at h <;> first | (cases h; done) | skip
    rename_i t ht
    -- the guard's own temporary
    have hat : ∀ v, st.tmps[t]? = some v → ∃ c, a.tmps[t]? = some c ∧ PVR m g v c := fun v hv => by
      have h1 : t < st.tmps.length := (List.getElem?_eq_some_iff.1 hv).1
      have h2 : t < a.tmps.size := by rw [← hs.len]; exact h1
      exact ⟨_, Array.getElem?_eq_getElem h2, hs.tmps t v _ hv (Array.getElem?_eq_getElem h2)⟩
    split at h <;> first | (cases h; done) | skip
    · rename_i b hv
      obtain ⟨c, hc, hr⟩ := hat _ hv
      have hcb := pv_bool hr
      subst hcb
      have hy : yielded ops a.tmps j = some b := by simp [yielded, ht, hc]
      have hput : SRel E m g { st with tmps := st.tmps.set t (.ro (.bool b)) } a w := ⟨hs.f, by simpa using hs.len, fun i u c' x y => by
        simp only [List.getElem?_set] at x
        by_cases e : t = i
        · subst e
          simp only [if_true] at x
          split at x
          · cases x; rw [hc] at y; cases y; exact hr
          · cases x
        · simp only [e, if_false] at x
          exact hs.tmps i u c' x y, hs.dfr⟩
      refine ⟨_, hput, ?_⟩
      have hw : Region.wanted o (yielded ops a.tmps) = (b == want) := by simp [Region.wanted, hg, hy]
      rw [hw]
      cases b <;> cases want <;> simp_all
    · rename_i vs hv
      obtain ⟨c, hc, hr⟩ := hat _ hv
      simp only [PVR, SVR, VRr] at hr
      obtain ⟨cs, rfl, _⟩ := hr
      have hy : yielded ops a.tmps j = none := by simp [yielded, ht, hc]
      exact ⟨st, hs, .inr ⟨by simp [Region.wanted, hg, hy], h⟩⟩

theorem pmOps_wp {hh : Hint} (hE : EqOK P hh) {call : CallF R} (hC : CallOK P call) {E : Entry} {f : FuncId} {ops : Array Oper} {K : St → Option R} {r : R} {Q : Exit → Act → World → Prop} {ro : Option Nat} {n : Nat}
    (hQ : ∀ m g st a w, SRel E m g st a w → K st = some r → Q .normal a w) : ∀ (l : List Oper) (i : Nat) (m : Mem) (g : Gh) (st : St) (a : Act) (w : World), SRel E m g st a w → pmOps P hh f call ops none l i st K = some r → wpListIn (FF ro) n P ops Q l a w
  | [], i, m, g, st, a, w, hs, h => hQ m g st a w hs (by simpa [pmOps] using h)
  | o :: l, i, m, g, st, a, w, hs, h => by
    simp only [pmOps] at h
    obtain ⟨st', hs', hc⟩ := guardK_some hs h
    unfold wpListIn
    rcases hc with ⟨hw, hk⟩ | ⟨hw, hk⟩
    · rw [if_pos hw]
      simp only [readsOld] at hk
      exact opK_wp hE hC hs' hk fun c v m' g' fr' w' q1 q2 q3 q4 q5 => pmOps_wp hE hC hQ l (i + 1) m' g' _ _ w' (hs'.put q3 q4 q5 q2 o.dst) q1
    · rw [if_neg (by rw [hw]; simp)]
      exact ⟨fun _ _ => trivial, pmOps_wp hE hC hQ l (i + 1) m g _ _ w (hs'.put hs'.f (Mem.le_refl _) (Gh.le_refl _) (pv_skip m g) o.dst) hk⟩

end Go.PM

set_option linter.unusedSectionVars false
namespace Go.PM
variable [LoopCodes]
variable {R : Type} {P : Program}

def Keeps (n : Nat) (g g' : Gh) : Prop := ∀ d k l, gAt g d k = some l → (d = 0 → k < n) → gAt g' d k = some l
def Toks (ts : List LShape) (g' : Gh) : Prop := ∀ k sz, ts[k]? = some (.tok sz) → ∃ l, gAt g' 0 k = some l ∧ l.lv 0 = some (.slice none 0 0)

theorem svKept_rel {n : Nat} {m : Mem} {g g' : Gh} (hg : Keeps n g g') {s : SV} {u : Value} (h : SVR m g s u) (hk : svKept n s = true) : SVR m g' s u := by
  have look : ∀ d k l, gAt g d k = some l → (match d with | 0 => Nat.blt k n | _ => true) = true → gAt g' d k = some l := fun d k l h0 hb => hg d k l h0 fun e => by subst e; simpa using hb
  cases s with
  | ro v => exact h
  | ptr d k ri off =>
    obtain ⟨l, h1, h2⟩ := h
    exact ⟨l, look d k l h1 (by cases d <;> first | (simp [svKept]; done) | simpa [svKept] using hk), h2⟩
  | sl d k off len =>
    obtain ⟨l, a, cap, h1, h2⟩ := h
    exact ⟨l, a, cap, look d k l h1 (by cases d <;> first | (simp [svKept]; done) | simpa [svKept] using hk), h2⟩
  | tsl sz rows d k =>
    obtain ⟨l, h1, h2⟩ := h
    exact ⟨l, look d k l h1 (by cases d <;> first | (simp [svKept]; done) | simpa [svKept] using hk), h2⟩
  | mp d k =>
    obtain ⟨l, h1, h2⟩ := h
    exact ⟨l, look d k l h1 (by cases d <;> first | (simp [svKept]; done) | simpa [svKept] using hk), h2⟩
  | it k =>
    obtain ⟨l, h1, h2⟩ := h
    exact ⟨l, look 0 k l h1 (by simpa [svKept] using hk), h2⟩
  | yld d k =>
    obtain ⟨l, h1, h2⟩ := h
    exact ⟨l, look d k l h1 (by cases d <;> first | (simp [svKept]; done) | simpa [svKept] using hk), h2⟩
  | fn f cap =>
    obtain ⟨cs, e, h1, h2⟩ := h
    refine ⟨cs, e, h1, fun i v u a b => ?_⟩
    have h3 := h2 i v u a b
    have hv := List.mem_of_getElem? a
    cases v with
    | ro v => exact h3
    | ptr d k ri off =>
      obtain ⟨l, q1, q2⟩ := h3
      refine ⟨l, look d k l q1 ?_, q2⟩
      have := List.all_eq_true.1 (show cap.all _ = true from hk) _ hv
      cases d <;> first | (simp; done) | simpa using this
  | undef => trivial

theorem tokAt_spec {ts : List LShape} {k sz : Nat} (h : tokAt ts k sz = true) : ts[k]? = some (.tok sz) ∧ k < ts.length := by
  unfold tokAt at h
  split at h
  · rename_i sz' ht
    have : sz = sz' := by simpa using h
    subst this
    exact ⟨ht, (List.getElem?_eq_some_iff.1 ht).1⟩
  · cases h

theorem normS_some {ts : List LShape} {sh : Shape} {v : SV} {K : SV → Option R} {r : R} (h : normS ts sh v K = some r) :
    ∃ v', K v' = some r ∧ ∀ (m : Mem) (g g' : Gh) (c : Value), Keeps ts.length g g' → Toks ts g' → SVR m g v c → SVR m g' v' c := by
  unfold normS at h
  split at h
  · exact ⟨_, h, fun m g g' c _ _ _ => trivial⟩
  · split at h <;> first | (cases h; done) | skip
    split at h <;> first | (cases h; done) | skip
    rename_i k' i _ hk
    have hk' := of_decide_eq_true hk
    subst hk'
    exact ⟨_, h, fun m g g' c _ _ hc => hc⟩
  · split at h <;> first | (cases h; done) | skip
    exact ⟨_, h, fun m g g' c _ _ hc => hc⟩
  · split at h <;> first | (cases h; done) | skip
    exact ⟨_, h, fun m g g' c _ _ hc => hc⟩
  · split at h <;> first | (cases h; done) | skip
    exact ⟨_, h, fun m g g' c _ _ hc => hc⟩
  · split at h <;> first | (cases h; done) | skip
    rename_i hk
    exact ⟨_, h, fun m g g' c hg _ hc => svKept_rel hg hc hk⟩
  · split at h <;> first | (cases h; done) | skip
    rename_i hk
    exact ⟨_, h, fun m g g' c hg _ hc => svKept_rel hg hc hk⟩
  · rename_i sz k
    split at h <;> first | (cases h; done) | skip
    rename_i ht
    obtain ⟨ht1, ht2⟩ := tokAt_spec ht
    split at h <;> first | (cases h; done) | skip
    · rename_i sz' rows k'
      split at h <;> first | (cases h; done) | skip
      rename_i he
      simp only [Bool.and_eq_true, beq_iff_eq] at he
      obtain ⟨rfl, rfl⟩ := he
      exact ⟨_, h, fun m g g' c hg _ hc => svKept_rel hg hc (by simpa [svKept] using ht2)⟩
    · refine ⟨_, h, fun m g g' c hg htk hc => ?_⟩
      obtain ⟨l, q1, q2⟩ := htk k sz ht1
      have : c = .slice none 0 0 := by simpa [SVR, VRr] using hc
      subst this
      exact ⟨l, q1, q2, fun _ => rfl, fun hne => absurd rfl hne⟩

theorem normCells_some {ts : List LShape} : ∀ {shs : List Shape} {vs : List SV} {K : List SV → Option R} {r : R}, normCells ts shs vs K = some r →
    ∃ vs', K vs' = some r ∧ vs'.length = vs.length ∧ ∀ (m : Mem) (g g' : Gh), Keeps ts.length g g' → Toks ts g' → ∀ (i : Nat) (s s' : SV) (c : Value), vs[i]? = some s → vs'[i]? = some s' → SVR m g s c → SVR m g' s' c
  | [], [], K, r, h => ⟨[], by simpa [normCells] using h, rfl, fun m g g' _ _ i s s' c a => by simp at a⟩
  | sh :: shs, v :: vs, K, r, h => by
    simp only [normCells] at h
    obtain ⟨v', h1, h2⟩ := normS_some h
    obtain ⟨vs', h3, h4, h5⟩ := normCells_some h1
    refine ⟨_, h3, by simp [h4], fun m g g' hg ht i s s' c a b hc => ?_⟩
    cases i with
    | zero => simp at a b; subst a; subst b; exact h2 m g g' c hg ht hc
    | succ i => exact h5 m g g' hg ht i s s' c (by simpa using a) (by simpa using b) hc
  | [], _ :: _, K, r, h => by simp [normCells] at h
  | _ :: _, [], K, r, h => by simp [normCells] at h

theorem normTmps_some {ts : List LShape} : ∀ {shs : List Shape} {vs : List PV} {K : List PV → Option R} {r : R}, normTmps ts shs vs K = some r →
    ∃ vs', K vs' = some r ∧ vs'.length = vs.length ∧ ∀ (m : Mem) (g g' : Gh), Keeps ts.length g g' → Toks ts g' → ∀ (i : Nat) (s s' : PV) (c : Value), vs[i]? = some s → vs'[i]? = some s' → PVR m g s c → PVR m g' s' c
  | [], [], K, r, h => ⟨[], by simpa [normTmps] using h, rfl, fun m g g' _ _ i s s' c a => by simp at a⟩
  | sh :: shs, v :: vs, K, r, h => by
    have fin : ∀ v', (normTmps ts shs vs fun vs' => K (v' :: vs')) = some r → (∀ (m : Mem) (g g' : Gh) (c : Value), Keeps ts.length g g' → Toks ts g' → PVR m g v c → PVR m g' v' c) →
        ∃ vs', K vs' = some r ∧ vs'.length = (v :: vs).length ∧ ∀ (m : Mem) (g g' : Gh), Keeps ts.length g g' → Toks ts g' → ∀ (i : Nat) (s s' : PV) (c : Value), (v :: vs)[i]? = some s → vs'[i]? = some s' → PVR m g s c → PVR m g' s' c := fun v' h1 h2 => by
      obtain ⟨vs', h3, h4, h5⟩ := normTmps_some h1
      refine ⟨_, h3, by simp [h4], fun m g g' hg ht i s s' c a b hc => ?_⟩
      cases i with
      | zero => simp at a b; subst a; subst b; exact h2 m g g' c hg ht hc
      | succ i => exact h5 m g g' hg ht i s s' c (by simpa using a) (by simpa using b) hc
    simp only [normTmps] at h
    split at h
    · exact fin _ h fun m g g' c _ _ _ => trivial
    · split at h
      · obtain ⟨v', h1, h2⟩ := normS_some h
        exact fin _ h1 h2
      · split at h <;> first | (cases h; done) | skip
        split at h <;> first | (cases h; done) | skip
        rename_i cs hk
        refine fin _ h fun m g g' c hg ht hc => ?_
        obtain ⟨us, e, q1, q2, q3⟩ := hc
        exact ⟨us, e, q1, q2, fun i s u a b => svKept_rel hg (q3 i s u a b) (List.all_eq_true.1 hk s (List.mem_of_getElem? a))⟩
  | [], _ :: _, K, r, h => by simp [normTmps] at h
  | _ :: _, [], K, r, h => by simp [normTmps] at h

/-- A block before and after. -/
def SlotN (ts : List LShape) (sh : LShape) (b b' : LB) : Prop :=
  (b' = b ∧ (∀ f k n env st, b ≠ .loop f k n env st) ∧ (∀ cs, b = .box cs → ∀ s ∈ cs, svKept ts.length s = true) ∧ (∀ sz, sh = .tok sz → ∃ n, b' = .tok sz n)) ∨
  (∃ cs cs', b = .box cs ∧ b' = .box cs' ∧ cs'.length = cs.length ∧ (∀ sz, sh ≠ .tok sz) ∧ ∀ (m : Mem) (g g' : Gh), Keeps ts.length g g' → Toks ts g' → ∀ (i : Nat) (s s' : SV) (c : Value), cs[i]? = some s → cs'[i]? = some s' → SVR m g s c → SVR m g' s' c) ∨
  (∃ sz, sh = .tok sz ∧ 0 < sz ∧ b = .none ∧ b' = .tok sz 0)

theorem normLoc_some {ts : List LShape} : ∀ {ls : List LShape} {loc : List LB} {K : List LB → Option R} {r : R}, normLoc ts ls loc K = some r →
    ∃ loc', K loc' = some r ∧ loc'.length = ls.length ∧ ∀ k sh b', ls[k]? = some sh → loc'[k]? = some b' → SlotN ts sh (loc.getD k .none) b'
  | [], loc, K, r, h => ⟨[], by simpa [normLoc] using h, rfl, fun k sh b' a => by simp at a⟩
  | sh :: ls, loc, K, r, h => by
    have hd : ∀ k, (loc.drop 1).getD k LB.none = loc.getD (k + 1) LB.none := fun k => by simp [List.getD_eq_getElem?_getD, Nat.add_comm]
    have h0 : loc.getD 0 LB.none = loc.headD LB.none := by cases loc <;> simp
    have fin : ∀ b', (normLoc ts ls (loc.drop 1) fun r => K (b' :: r)) = some r → SlotN ts sh (loc.headD .none) b' →
        ∃ loc', K loc' = some r ∧ loc'.length = (sh :: ls).length ∧ ∀ k sh' b', (sh :: ls)[k]? = some sh' → loc'[k]? = some b' → SlotN ts sh' (loc.getD k .none) b' := fun b' h1 h2 => by
      obtain ⟨loc', h3, h4, h5⟩ := normLoc_some h1
      refine ⟨_, h3, by simp [h4], fun k sh' b'' a b => ?_⟩
      cases k with
      | zero => simp at a b; subst a; subst b; rw [h0]; exact h2
      | succ k => rw [← hd]; exact h5 k sh' b'' (by simpa using a) (by simpa using b)
    simp only [normLoc] at h
    split at h
    · split at h
      · split at h <;> first | (cases h; done) | skip
        rename_i cs hb _ hk
        exact fin _ h (.inl ⟨hb.symm, (fun _ _ _ _ _ e => by rw [hb] at e; cases e), (fun cs' e s hs => by rw [hb] at e; cases e; exact List.all_eq_true.1 hk s hs), (fun sz e => by cases e)⟩)
      · cases h
      · rename_i hn hn2
        exact fin _ h (.inl ⟨rfl, (fun f k n env st e => absurd e (hn2 f k n env st)), (fun cs e => absurd e (hn cs)), fun sz e => by cases e⟩)
    · split at h <;> first | (cases h; done) | skip
      rename_i cs hb
      obtain ⟨cs', h1, h2, h3⟩ := normCells_some h
      exact fin _ h1 (.inr (.inl ⟨cs, cs', hb, rfl, h2, (fun sz e => by cases e), h3⟩))
    · split at h <;> first | (cases h; done) | skip
      rename_i sz' rows hb
      split at h <;> first | (cases h; done) | skip
      rename_i he
      have he' := eq_of_beq he
      subst he'
      exact fin _ h (.inl ⟨hb.symm, (fun _ _ _ _ _ e => by rw [hb] at e; cases e), (fun cs e => by rw [hb] at e; cases e), (fun sz e => by cases e)⟩)
    · split at h <;> first | (cases h; done) | skip
      · rename_i sz' mm hb
        split at h <;> first | (cases h; done) | skip
        rename_i he
        have he' := eq_of_beq he
        subst he'
        exact fin _ h (.inl ⟨hb.symm, (fun _ _ _ _ _ e => by rw [hb] at e; cases e), (fun cs e => by rw [hb] at e; cases e), (fun sz e => by cases e; exact ⟨_, rfl⟩)⟩)
      · rename_i hb
        split at h <;> first | (cases h; done) | skip
        rename_i hz
        exact fin _ h (.inr (.inr ⟨_, rfl, by simpa using hz, hb, rfl⟩))
    · split at h <;> first | (cases h; done) | skip
      rename_i es hb
      exact fin _ h (.inl ⟨hb.symm, (fun _ _ _ _ _ e => by rw [hb] at e; cases e), (fun cs e => by rw [hb] at e; cases e), (fun sz e => by cases e)⟩)

theorem LBR.keptG {m : Mem} {g g' : Gh} {w : World} {lb : LB} {l : LG} {n : Nat} (h : LBR m g w lb l) (hnl : ∀ f k n env st, lb ≠ .loop f k n env st) (hk : ∀ cs, lb = .box cs → ∀ s ∈ cs, svKept n s = true) (hg : Keeps n g g') : LBR m g' w lb l := by
  cases lb with
  | box cells =>
    obtain ⟨h1, h2, c, E, hh, h3⟩ := h
    refine ⟨h1, h2, c, E, hh, fun i v hv => ?_⟩
    obtain ⟨u, a, b, d⟩ := h3 i v hv
    exact ⟨u, a, b, svKept_rel hg d (hk cells rfl v (List.mem_of_getElem? hv))⟩
  | loop f k n env st => exact absurd rfl (hnl f k n env st)
  | _ => exact h

def newTokG (sz : Nat) : LG := ⟨0, sz, 0, fun r => if r = 0 then some (.slice none 0 0) else none⟩
def normG (g : Gh) (ls : List LShape) (k : Nat) : Option LG :=
  match gAt g 0 k with
  | some l => some l
  | none => match ls[k]? with
    | some (.tok sz) => some (newTokG sz)
    | _ => none

theorem FRel.norm {E : Entry} {m : Mem} {gl : List (Option LG)} {gu : Gh} {loc loc' : List LB} {up : Frames} {w : World} (h : FRel E m (gl :: gu) (loc :: up) w) {ls : List LShape} (hlen : loc'.length = ls.length)
    (hslot : ∀ k sh b', ls[k]? = some sh → loc'[k]? = some b' → SlotN ls sh (loc.getD k .none) b') :
    ∃ gl', FRel E m (gl' :: gu) (loc' :: up) w ∧ Keeps ls.length (gl :: gu) (gl' :: gu) ∧ Toks ls (gl' :: gu) := by
  let gl' : List (Option LG) := (List.range ls.length).map (normG (gl :: gu) ls)
  have g0 : ∀ k, gAt (gl' :: gu) 0 k = if k < ls.length then normG (gl :: gu) ls k else none := fun k => by
    simp only [gAt, List.getElem?_cons_zero, Option.bind_some, gl', List.getElem?_map]
    by_cases hk : k < ls.length
    · rw [if_pos hk, List.getElem?_range hk]; rfl
    · rw [if_neg hk, List.getElem?_eq_none (by simpa using hk)]; rfl
  have gs : ∀ d k, gAt (gl' :: gu) (d + 1) k = gAt (gl :: gu) (d + 1) k := fun d k => by rw [gAt_cons_succ, gAt_cons_succ]
  have old0 : ∀ k b, loc.getD k .none = b → b ≠ .none → lbAt? (loc :: up) 0 k = some b := fun k b hb hn => lbAt?_some.2 ⟨by simpa [lbAt] using hb, hn⟩
  have new0 : ∀ k b, lbAt? (loc' :: up) 0 k = some b → loc'[k]? = some b ∧ b ≠ .none ∧ k < ls.length ∧ ∃ sh, ls[k]? = some sh := fun k b hb => by
    obtain ⟨h1, h2⟩ := lbAt?_some.1 hb
    have hk : k < loc'.length := by
      rcases Nat.lt_or_ge k loc'.length with hk | hk
      · exact hk
      · have h1' : loc'.getD k .none = b := h1
        rw [List.getD_eq_getElem?_getD, List.getElem?_eq_none hk] at h1'
        exact absurd h1'.symm h2
    have h1' : loc'.getD k .none = b := h1
    rw [List.getD_eq_getElem?_getD, List.getElem?_eq_getElem hk, Option.getD_some] at h1'
    replace h1 := h1'
    exact ⟨by rw [List.getElem?_eq_getElem hk, h1], h2, by omega, _, List.getElem?_eq_getElem (by omega)⟩
  have hkeep : Keeps ls.length (gl :: gu) (gl' :: gu) := fun d k l hl hk => by
    cases d with
    | zero => rw [g0, if_pos (hk rfl), normG, hl]
    | succ d => rw [gs]; exact hl
  have hgn : ∀ k, loc.getD k .none = .none → gAt (gl :: gu) 0 k = none := fun k hb => by
    cases hg : gAt (gl :: gu) 0 k with
    | none => rfl
    | some l =>
      obtain ⟨lb, h1⟩ := h.p.ghost 0 k l hg
      obtain ⟨h2, h3⟩ := lbAt?_some.1 h1
      simp only [lbAt, List.getD_cons_zero, hb] at h2
      exact absurd h2.symm h3
  have htok : Toks ls (gl' :: gu) := fun k sz hs => by
    have hk : k < ls.length := (List.getElem?_eq_some_iff.1 hs).1
    have hb' : loc'[k]? = some _ := List.getElem?_eq_getElem (show k < loc'.length by omega)
    rcases hslot k _ _ hs hb' with ⟨e1, _, e2, e3⟩ | ⟨cs, cs', _, _, _, e, _⟩ | ⟨sz', e, e1, e2, e3⟩
    · obtain ⟨n, hn⟩ := e3 sz rfl
      rw [hn] at e1
      obtain ⟨l, hl, hr⟩ := h.p.blk 0 k _ (old0 k _ e1.symm (by simp))
      refine ⟨l, ?_, hr.2.1⟩
      rw [g0, if_pos hk, normG, hl]
    · exact absurd rfl (e sz)
    · cases e
      refine ⟨newTokG sz, ?_, rfl⟩
      rw [g0, if_pos hk, normG, hgn k e2, hs]
  -- where a written block comes from
  have back : ∀ d k lb' l' b, lbAt? (loc' :: up) d k = some lb' → gAt (gl' :: gu) d k = some l' → lb'.at_ l' = some b →
      ∃ lb, lbAt? (loc :: up) d k = some lb ∧ gAt (gl :: gu) d k = some l' ∧ lb.at_ l' = some b ∧ (lb' = lb ∨ ∃ cs, lb = .box cs) := fun d k lb' l' b hb hg ha => by
    cases d with
    | succ d =>
      rw [lbAt?_cons_succ] at hb
      exact ⟨lb', by rw [lbAt?_cons_succ]; exact hb, by rw [← gs]; exact hg, ha, .inl rfl⟩
    | zero =>
      obtain ⟨h1, h2, h3, sh, h4⟩ := new0 k lb' hb
      rw [g0, if_pos h3] at hg
      rcases hslot k sh lb' h4 h1 with ⟨e1, _, e2, e3⟩ | ⟨cs, cs', e1, e2, e3, _, _⟩ | ⟨sz, e, e1, e2, e3⟩
      · have hb0 := old0 k _ e1.symm h2
        obtain ⟨l, hl, hr⟩ := h.p.blk 0 k _ hb0
        rw [normG, hl] at hg; cases hg
        exact ⟨lb', hb0, hl, ha, .inl rfl⟩
      · have hb0 := old0 k _ e1 (by simp)
        obtain ⟨l, hl, hr⟩ := h.p.blk 0 k _ hb0
        rw [normG, hl] at hg; cases hg
        subst e2
        exact ⟨_, hb0, hl, ha, .inr ⟨_, rfl⟩⟩
      · rw [normG, hgn k e2, h4] at hg
        subst e
        cases hg
        subst e3
        simp [LB.at_, newTokG, Value.ownBlock] at ha
  refine ⟨gl', ⟨⟨h.p.mem, by have := h.p.len; simpa using this, fun d k lb hb => ?_, fun d k d' k' lb lb' l l' b hb hg hb' hg' ha ha' => ?_, fun d k lb l b o c hb hg ha hc => ?_, fun d k l hg => ?_⟩, h.step, ?_, ?_, fun d k lb l b hb hg ha hlt => ?_, fun b o hk => ?_⟩, hkeep, htok⟩
  · cases d with
    | succ d =>
      rw [lbAt?_cons_succ] at hb
      obtain ⟨l, hl, hr⟩ := h.p.blk (d + 1) k lb (by rw [lbAt?_cons_succ]; exact hb)
      exact ⟨l, by rw [gs]; exact hl, hr⟩
    | zero =>
      obtain ⟨h1, h2, h3, sh, h4⟩ := new0 k lb hb
      rcases hslot k sh lb h4 h1 with ⟨e1, e0, e2, e3⟩ | ⟨cs, cs', e1, e2, e3, _, e5⟩ | ⟨sz, e, e1, e2, e3⟩
      · obtain ⟨l, hl, hr⟩ := h.p.blk 0 k _ (old0 k _ e1.symm h2)
        refine ⟨l, by rw [g0, if_pos h3, normG, hl], hr.keptG (fun f k n env st e => e0 f k n env st (by rw [← e1]; exact e)) (fun cs e s hs => e2 cs (by rw [← e1]; exact e) s hs) hkeep⟩
      · obtain ⟨l, hl, hr⟩ := h.p.blk 0 k _ (old0 k _ e1 (by simp))
        subst e2
        obtain ⟨n1, n2, c, Et, hh, hc⟩ := hr
        refine ⟨l, by rw [g0, if_pos h3, normG, hl], n1, by rw [n2, e3], c, Et, hh, fun i v hv => ?_⟩
        have hi : i < cs.length := by rw [← e3]; exact (List.getElem?_eq_some_iff.1 hv).1
        obtain ⟨u, a, b, d⟩ := hc i _ (List.getElem?_eq_getElem hi)
        exact ⟨u, a, b, e5 m _ _ hkeep htok i _ v u (List.getElem?_eq_getElem hi) hv d⟩
      · subst e; subst e3
        refine ⟨newTokG sz, by rw [g0, if_pos h3, normG, hgn k e2, h4], e1, rfl, fun r hr => if_neg (by omega), .slice none 0 0, 0, [], rfl, World.ownsRow_nil w 0 0 sz, fun u hu => by cases hu⟩
  · obtain ⟨lb0, q1, q2, q3, _⟩ := back d k lb l b hb hg ha
    obtain ⟨lb1, p1, p2, p3, _⟩ := back d' k' lb' l' b hb' hg' ha'
    exact h.p.excl _ _ _ _ _ _ _ _ b q1 q2 p1 p2 q3 p3
  · obtain ⟨lb0, q1, q2, q3, q4⟩ := back d k lb l b hb hg ha
    obtain ⟨sz, n, e1, e2⟩ := h.p.dis d k lb0 l b o c q1 q2 q3 hc
    rcases q4 with rfl | ⟨cs, rfl⟩
    · exact ⟨sz, n, e1, e2⟩
    · cases e1
  · cases d with
    | succ d =>
      rw [gs] at hg
      obtain ⟨lb, hb⟩ := h.p.ghost (d + 1) k l hg
      exact ⟨lb, by rw [lbAt?_cons_succ] at hb ⊢; exact hb⟩
    | zero =>
      rw [g0] at hg
      split at hg
      · rename_i hk
        have hb' : loc'[k]? = some _ := List.getElem?_eq_getElem (show k < loc'.length by omega)
        have hs : ls[k]? = some _ := List.getElem?_eq_getElem hk
        have hne : loc'[k]'(by omega) ≠ .none := by
          rcases hslot k _ _ hs hb' with ⟨e1, e0, e2, e3⟩ | ⟨cs, cs', e1, e2, e3, _, e5⟩ | ⟨sz, e, e1, e2, e3⟩
          · intro hn
            rw [hn] at e1
            rw [normG, hgn k e1.symm, hs] at hg
            cases hsk : ls[k] with
            | tok sz =>
              obtain ⟨n, hn'⟩ := e3 sz hsk
              rw [hn] at hn'; cases hn'
            | _ => rw [hsk] at hg; simp at hg
          · rw [e2]; simp
          · rw [e3]; simp
        exact ⟨_, lbAt?_some.2 ⟨by show loc'.getD k .none = _; rw [List.getD_eq_getElem?_getD, hb', Option.getD_some], hne⟩⟩
      · cases hg
  · obtain ⟨gl0, g1, e, h1⟩ := h.gt
    cases e
    exact ⟨_, _, rfl, h1⟩
  · obtain ⟨loc0, up0, e, h1⟩ := h.shape
    cases e
    exact ⟨_, _, rfl, h1⟩
  · obtain ⟨lb0, q1, q2, q3, _⟩ := back d k lb l b hb hg ha
    exact h.old d k lb0 l b q1 q2 q3 hlt
  · obtain ⟨h1, h2⟩ := h.kp b o hk
    refine ⟨h1, fun d k lb l hb hg ha => ?_⟩
    obtain ⟨lb0, q1, q2, q3, _⟩ := back d k lb l b hb hg ha
    exact h2 d k lb0 l q1 q2 q3

/-! ### a block takes another one's place -/
theorem svFree_rel {i j : Nat} {m : Mem} {g g' : Gh} (hg : ∀ d k l, gAt g d k = some l → (d = 0 → k ≠ i ∧ k ≠ j) → gAt g' d k = some l) {s : SV} {u : Value} (h : SVR m g s u) (hk : svFree i j s = true) : SVR m g' s u := by
  have ne : ∀ k, neK i j k = true → k ≠ i ∧ k ≠ j := fun k h => by
    simp only [neK, Bool.and_eq_true, Bool.not_eq_true'] at h
    exact ⟨fun e => by subst e; simp at h, fun e => by subst e; simp at h⟩
  have look : ∀ d k l, gAt g d k = some l → (match d with | 0 => neK i j k | _ => true) = true → gAt g' d k = some l := fun d k l h0 hb => hg d k l h0 fun e => by subst e; exact ne k hb
  cases s with
  | ro v => exact h
  | ptr d k ri off =>
    obtain ⟨l, h1, h2⟩ := h
    exact ⟨l, look d k l h1 (by cases d <;> first | (simp [svFree]; done) | simpa [svFree] using hk), h2⟩
  | sl d k off len =>
    obtain ⟨l, a, cap, h1, h2⟩ := h
    exact ⟨l, a, cap, look d k l h1 (by cases d <;> first | (simp [svFree]; done) | simpa [svFree] using hk), h2⟩
  | tsl sz rows d k =>
    obtain ⟨l, h1, h2⟩ := h
    exact ⟨l, look d k l h1 (by cases d <;> first | (simp [svFree]; done) | simpa [svFree] using hk), h2⟩
  | mp d k =>
    obtain ⟨l, h1, h2⟩ := h
    exact ⟨l, look d k l h1 (by cases d <;> first | (simp [svFree]; done) | simpa [svFree] using hk), h2⟩
  | it k =>
    obtain ⟨l, h1, h2⟩ := h
    exact ⟨l, look 0 k l h1 (by simpa [svFree] using hk), h2⟩
  | yld d k =>
    obtain ⟨l, h1, h2⟩ := h
    exact ⟨l, look d k l h1 (by cases d <;> first | (simp [svFree]; done) | simpa [svFree] using hk), h2⟩
  | fn f cap =>
    obtain ⟨cs, e, h1, h2⟩ := h
    refine ⟨cs, e, h1, fun i v u a b => ?_⟩
    have h3 := h2 i v u a b
    have hv := List.mem_of_getElem? a
    cases v with
    | ro v => exact h3
    | ptr d k ri off =>
      obtain ⟨l, q1, q2⟩ := h3
      refine ⟨l, look d k l q1 ?_, q2⟩
      have := List.all_eq_true.1 (show cap.all _ = true from hk) _ hv
      cases d <;> first | (simp; done) | simpa using this
  | undef => trivial

theorem isNone_false {b : LB} (h : (!b.isNone) = true) : b ≠ .none := fun e => by subst e; cases h

theorem FRel.move {E : Entry} {m : Mem} {gl : List (Option LG)} {gu : Gh} {loc : List LB} {up : Frames} {w : World} (h : FRel E m (gl :: gu) (loc :: up) w) {i j : Nat} (hij : i ≠ j) (hi : loc.getD i .none ≠ .none) (hj : loc.getD j .none ≠ .none) (hfree : ∀ lb ∈ loc, lbFree i j lb = true) :
    ∃ gl', FRel E m (gl' :: gu) ((loc.set i (loc.getD j .none)).set j .none :: up) w ∧ (∀ d k l, gAt (gl :: gu) d k = some l → (d = 0 → k ≠ i ∧ k ≠ j) → gAt (gl' :: gu) d k = some l) ∧ gAt (gl' :: gu) 0 i = gAt (gl :: gu) 0 j := by
  have hil : i < loc.length := by
    rcases Nat.lt_or_ge i loc.length with h | h
    · exact h
    · rw [List.getD_eq_getElem?_getD, List.getElem?_eq_none h] at hi; exact absurd rfl hi
  have hjl : j < loc.length := by
    rcases Nat.lt_or_ge j loc.length with h | h
    · exact h
    · rw [List.getD_eq_getElem?_getD, List.getElem?_eq_none h] at hj; exact absurd rfl hj
  have q0 : ∀ k, loc.getD k .none ≠ .none → lbAt? (loc :: up) 0 k = some (loc.getD k .none) := fun k hn => lbAt?_some.2 ⟨rfl, hn⟩
  obtain ⟨li, gi, _⟩ := h.p.blk 0 i _ (q0 i hi)
  obtain ⟨lj, gj, _⟩ := h.p.blk 0 j _ (q0 j hj)
  have g0 : ∀ (l : List (Option LG)) k, gAt (l :: gu) 0 k = (l[k]?).join := fun l k => by simp [gAt]
  have hgi : i < gl.length := by
    rcases Nat.lt_or_ge i gl.length with h | h
    · exact h
    · rw [g0, List.getElem?_eq_none h] at gi; cases gi
  have hgj : j < gl.length := by
    rcases Nat.lt_or_ge j gl.length with h | h
    · exact h
    · rw [g0, List.getElem?_eq_none h] at gj; cases gj
  -- where each came from
  let gl' : List (Option LG) := (gl.set i (some lj)).set j none
  have G : ∀ d k, gAt (gl' :: gu) d k = if d = 0 ∧ k = j then none else if d = 0 ∧ k = i then some lj else gAt (gl :: gu) d k := fun d k => by
    cases d with
    | succ d => rw [if_neg (by omega), if_neg (by omega), gAt_cons_succ, gAt_cons_succ]
    | zero =>
      rw [g0, g0]
      simp only [gl', List.getElem?_set, List.length_set]
      by_cases e1 : k = j
      · subst e1; simp [hgj]
      · by_cases e2 : k = i
        · subst e2; simp [e1, Ne.symm e1, hgi]
        · simp [e1, e2, Ne.symm e1, Ne.symm e2]
  have L : ∀ d k, lbAt ((loc.set i (loc.getD j .none)).set j .none :: up) d k = if d = 0 ∧ k = j then .none else if d = 0 ∧ k = i then loc.getD j .none else lbAt (loc :: up) d k := fun d k => by
    cases d with
    | succ d => rw [if_neg (by omega), if_neg (by omega)]; rfl
    | zero =>
      simp only [lbAt, List.getD_cons_zero]
      rw [List.getD_eq_getElem?_getD, List.getElem?_set, List.getElem?_set]
      by_cases e1 : k = j
      · subst e1; simp [hjl]
      · by_cases e2 : k = i
        · subst e2; simp [e1, Ne.symm e1, hil]
        · simp [e1, e2, Ne.symm e1, Ne.symm e2]
  have keep : ∀ d k l, gAt (gl :: gu) d k = some l → (d = 0 → k ≠ i ∧ k ≠ j) → gAt (gl' :: gu) d k = some l := fun d k l h1 h2 => by
    rw [G, if_neg (fun e => (h2 e.1).2 e.2), if_neg (fun e => (h2 e.1).1 e.2)]; exact h1
  let σ (d k : Nat) : Nat := if d = 0 ∧ k = i then j else k
  have back : ∀ d k lb, lbAt? ((loc.set i (loc.getD j .none)).set j .none :: up) d k = some lb → ¬ (d = 0 ∧ k = j) ∧ lbAt? (loc :: up) d (σ d k) = some lb ∧ gAt (gl' :: gu) d k = gAt (gl :: gu) d (σ d k) := fun d k lb hb => by
    obtain ⟨h1, h2⟩ := lbAt?_some.1 hb
    rw [L] at h1
    by_cases e1 : d = 0 ∧ k = j
    · rw [if_pos e1] at h1; exact absurd h1.symm h2
    · rw [if_neg e1] at h1
      refine ⟨e1, ?_⟩
      by_cases e2 : d = 0 ∧ k = i
      · rw [if_pos e2] at h1
        have hs : σ d k = j := if_pos e2
        rw [hs, G, if_neg e1, if_pos e2, e2.1, gj]
        exact ⟨lbAt?_some.2 ⟨h1, h2⟩, rfl⟩
      · rw [if_neg e2] at h1
        have hs : σ d k = k := if_neg e2
        rw [hs, G, if_neg e1, if_neg e2]
        exact ⟨lbAt?_some.2 ⟨h1, h2⟩, rfl⟩
  have inj : ∀ d k k', ¬ (d = 0 ∧ k = j) → ¬ (d = 0 ∧ k' = j) → σ d k = σ d k' → k = k' := fun d k k' a b e => by
    simp only [σ] at e
    by_cases e1 : d = 0 ∧ k = i
    · by_cases e2 : d = 0 ∧ k' = i
      · omega
      · rw [if_pos e1, if_neg e2] at e; exact absurd ⟨e1.1, e.symm⟩ b
    · by_cases e2 : d = 0 ∧ k' = i
      · rw [if_neg e1, if_pos e2] at e; exact absurd ⟨e2.1, e⟩ a
      · rw [if_neg e1, if_neg e2] at e; exact e
  refine ⟨gl', ⟨⟨h.p.mem, by simpa using h.p.len, fun d k lb hb => ?_, fun d k d' k' lb lb' l l' b hb hg hb' hg' ha ha' => ?_, fun d k lb l b o c hb hg ha hm => ?_, fun d k l hg => ?_⟩, h.step, ?_, ?_, fun d k lb l b hb hg ha hlt => ?_, fun b o hk => ?_⟩, keep, by rw [G, if_neg (by omega), if_pos ⟨rfl, rfl⟩, gj]⟩
  · obtain ⟨h1, h2, h3⟩ := back d k lb hb
    obtain ⟨l, h4, h5⟩ := h.p.blk d _ lb h2
    refine ⟨l, by rw [h3]; exact h4, ?_⟩
    cases d with
    | succ d => exact h5
    | zero =>
      simp only [List.drop_zero] at h5 ⊢
      have hmem : lb ∈ loc := by
        obtain ⟨q1, q2⟩ := lbAt?_some.1 h2
        have q1' : loc.getD (σ 0 k) .none = lb := q1
        rw [List.getD_eq_getElem?_getD] at q1'
        cases hx : loc[σ 0 k]? with
        | none => rw [hx] at q1'; exact absurd q1'.symm q2
        | some y => rw [hx] at q1'; simp at q1'; subst q1'; exact List.mem_of_getElem? hx
      have hf := hfree lb hmem
      cases lb with
      | box cells =>
        obtain ⟨a1, a2, c, T, hh, a3⟩ := h5
        refine ⟨a1, a2, c, T, hh, fun x v hv => ?_⟩
        obtain ⟨u, b1, b2, b3⟩ := a3 x v hv
        exact ⟨u, b1, b2, svFree_rel keep b3 (List.all_eq_true.1 hf v (List.mem_of_getElem? hv))⟩
      | loop f k n env st => cases hf
      | _ => exact h5
  · obtain ⟨h1, h2, h3⟩ := back d k lb hb
    obtain ⟨h1', h2', h3'⟩ := back d' k' lb' hb'
    rw [h3] at hg; rw [h3'] at hg'
    obtain ⟨e1, e2⟩ := h.p.excl d _ d' _ lb lb' l l' b h2 hg h2' hg' ha ha'
    subst e1
    exact ⟨rfl, inj d k k' h1 h1' e2⟩
  · obtain ⟨h1, h2, h3⟩ := back d k lb hb
    rw [h3] at hg
    exact h.p.dis d _ lb l b o c h2 hg ha hm
  · rw [G] at hg
    by_cases e1 : d = 0 ∧ k = j
    · rw [if_pos e1] at hg; cases hg
    · rw [if_neg e1] at hg
      by_cases e2 : d = 0 ∧ k = i
      · exact ⟨loc.getD j .none, lbAt?_some.2 ⟨by rw [L, if_neg e1, if_pos e2], hj⟩⟩
      · rw [if_neg e2] at hg
        obtain ⟨lb, hb⟩ := h.p.ghost d k l hg
        obtain ⟨q1, q2⟩ := lbAt?_some.1 hb
        exact ⟨lb, lbAt?_some.2 ⟨by rw [L, if_neg e1, if_neg e2]; exact q1, q2⟩⟩
  · obtain ⟨gl0, gx, e, h1⟩ := h.gt
    cases e
    exact ⟨_, _, rfl, h1⟩
  · obtain ⟨loc0, up0, e, h1⟩ := h.shape
    cases e
    exact ⟨_, _, rfl, h1⟩
  · obtain ⟨h1, h2, h3⟩ := back d k lb hb
    rw [h3] at hg
    obtain ⟨d', lb0, l0, e, r1, r2, r3⟩ := h.old d _ lb l b h2 hg ha hlt
    subst e
    have hs : σ (d' + 1) k = k := if_neg (by omega)
    rw [hs] at r1 r2
    exact ⟨d', lb0, l0, rfl, r1, r2, r3⟩
  · obtain ⟨h1, h2⟩ := h.kp b o hk
    refine ⟨h1, fun d k lb l hb hg => ?_⟩
    obtain ⟨_, h3, h4⟩ := back d k lb hb
    rw [h4] at hg
    exact h2 d _ lb l h3 hg

theorem renK_some {o : Option (Nat × Nat)} {st : St} {K : St → Option R} {r : R} (h : renK o st K = some r) :
    ∃ st', K st' = some r ∧ ∀ (E : Entry) (m : Mem) (g : Gh) (a : Act) (w : World), SRel E m g st a w → ∃ g', SRel E m g' st' a w := by
  unfold renK at h
  split at h
  · exact ⟨st, h, fun E m g a w hs => ⟨g, hs⟩⟩
  · rename_i t i
    split at h <;> first | (cases h; done) | skip
    rename_i j ri off ht
    split at h
    · exact ⟨st, h, fun E m g a w hs => ⟨g, hs⟩⟩
    · rename_i hij
      split at h <;> first | (cases h; done) | skip
      rename_i loc up hfr
      split at h <;> first | (cases h; done) | skip
      rename_i hc
      simp only [Bool.and_eq_true] at hc
      obtain ⟨⟨c1, c2⟩, c3⟩ := hc
      refine ⟨_, h, fun E m g a w hs => ?_⟩
      have hf := hs.f
      rw [hfr] at hf
      obtain ⟨gl, gu, rfl, _⟩ := hf.gt
      obtain ⟨gl', f1, f2, f3⟩ := hf.move (fun e => by subst e; simp at hij) (isNone_false c1) (isNone_false c2) (fun lb hl => List.all_eq_true.1 c3 lb hl)
      refine ⟨_, f1, by simpa using hs.len, fun x v c hx hy => ?_, hs.dfr⟩
      have htl : t < st.tmps.length := (List.getElem?_eq_some_iff.1 ht).1
      rw [List.getElem?_set] at hx
      by_cases e : t = x
      · subst e
        rw [if_pos rfl, if_pos (by simpa using htl)] at hx
        cases hx
        obtain ⟨l, q1, q2⟩ := hs.tmps t _ c ht hy
        exact ⟨l, by rw [f3]; exact q1, q2⟩
      · rw [if_neg e, List.getElem?_map] at hx
        cases hv : st.tmps[x]? with
        | none => rw [hv] at hx; cases hx
        | some v0 =>
          rw [hv] at hx
          simp at hx
          subst hx
          have h0 := hs.tmps x v0 c hv hy
          unfold freed
          cases hfree : pvFree i j v0 with
          | false => trivial
          | true =>
            cases v0 with
            | s v => exact svFree_rel f2 h0 hfree
            | agg cs =>
              obtain ⟨us, e, q1, q2, q3⟩ := h0
              exact ⟨us, e, q1, q2, fun i s u a b => svFree_rel f2 (q3 i s u a b) (List.all_eq_true.1 hfree s (List.mem_of_getElem? a))⟩

theorem normK_some {nm : Option (List Shape × List LShape)} {st : St} {K : St → Option R} {r : R} (h : normK nm st K = some r) :
    ∃ st', K st' = some r ∧ ∀ (E : Entry) (m : Mem) (g : Gh) (a : Act) (w : World), SRel E m g st a w → ∃ g', SRel E m g' st' a w := by
  unfold normK at h
  split at h
  · exact ⟨st, h, fun E m g a w hs => ⟨g, hs⟩⟩
  · rename_i shs ls
    obtain ⟨st, h, hst⟩ := renK_some h
    split at h
    · cases h
    · rename_i loc up hfr
      obtain ⟨loc', h1, h2, h3⟩ := normLoc_some h
      obtain ⟨tmps', h4, h5, h6⟩ := normTmps_some h1
      refine ⟨_, h4, fun E m g a w hs => ?_⟩
      obtain ⟨g, hs⟩ := hst E m g a w hs
      have hf := hs.f
      rw [hfr] at hf
      obtain ⟨gl, gu, rfl, _⟩ := hf.gt
      obtain ⟨gl', f1, f2, f3⟩ := hf.norm h2 h3
      refine ⟨_, f1, by rw [h5]; exact hs.len, fun i v c x y => ?_, hs.dfr⟩
      have hi : i < st.tmps.length := by rw [← h5]; exact (List.getElem?_eq_some_iff.1 x).1
      exact h6 m _ _ f2 f3 i _ v c (List.getElem?_eq_getElem hi) x (hs.tmps i _ c (List.getElem?_eq_getElem hi) y)

end Go.PM

set_option linter.unusedSectionVars false
namespace Go.PM
variable [LoopCodes]
variable {R : Type} {P : Program}

/-! ### entering -/
theorem FRel.enter {m : Mem} {g : Gh} {fr : Frames} {w : World} (h : PRel m g fr w) : FRel ⟨m, g, fr, w, []⟩ m ([] :: g) ([] :: fr) w := by
  have l0 : ∀ k, lbAt? ([] :: fr) 0 k = none := fun k => by simp [lbAt?]
  refine ⟨⟨h.mem, by have := h.len; simpa using this, fun d k lb hb => ?_, fun d k d' k' lb lb' l l' b hb hg hb' hg' ha ha' => ?_, fun d k lb l b o c hb hg ha hc => ?_, fun d k l hg => ?_⟩,
    ⟨Mem.le_refl m, (fun b o c h1 h2 => by have h2' : m b o = none := h2; rw [h1] at h2'; cases h2'), rfl, rfl, rfl, Nat.le_refl _, fun b _ _ => rfl⟩, ⟨[], g, rfl, Gh.le_refl _⟩, ⟨[], fr, rfl, rfl⟩, fun d k lb l b hb hg ha _ => ?_, fun b o hk => by cases hk⟩
  · cases d with
    | zero => rw [l0] at hb; cases hb
    | succ d =>
      rw [lbAt?_cons_succ] at hb
      obtain ⟨l, h1, h2⟩ := h.blk d k lb hb
      exact ⟨l, by rw [gAt_cons_succ]; exact h1, h2⟩
  · cases d with
    | zero => rw [l0] at hb; cases hb
    | succ d => cases d' with
      | zero => rw [l0] at hb'; cases hb'
      | succ d' =>
        rw [lbAt?_cons_succ] at hb hb'
        rw [gAt_cons_succ] at hg hg'
        obtain ⟨e1, e2⟩ := h.excl _ _ _ _ _ _ _ _ b hb hg hb' hg' ha ha'
        exact ⟨by rw [e1], e2⟩
  · cases d with
    | zero => rw [l0] at hb; cases hb
    | succ d =>
      rw [lbAt?_cons_succ] at hb
      rw [gAt_cons_succ] at hg
      exact h.dis _ _ _ _ _ _ _ hb hg ha hc
  · cases d with
    | zero => simp [gAt] at hg
    | succ d =>
      rw [gAt_cons_succ] at hg
      obtain ⟨lb, hb⟩ := h.ghost d k l hg
      exact ⟨lb, by rw [lbAt?_cons_succ]; exact hb⟩
  · cases d with
    | zero => rw [l0] at hb; cases hb
    | succ d =>
      rw [lbAt?_cons_succ] at hb
      rw [gAt_cons_succ] at hg
      exact ⟨d, lb, l, rfl, hb, hg, ha⟩

/-! ### what a frame laid, sealed -/
open Classical in
noncomputable def sealM (m : Mem) (g : Gh) (fr : Frames) (w : World) (skip : Option Nat) : Mem := fun b o =>
  match m b o with
  | some c => some c
  | none => if ∃ k lb l, lbAt? fr 0 k = some lb ∧ gAt g 0 k = some l ∧ lb.at_ l = some b ∧ some k ≠ skip then w.cell? ⟨b, o, none⟩ else none

theorem sealM_le (m : Mem) (g : Gh) (fr : Frames) (w : World) (skip : Option Nat) : m.le (sealM m g fr w skip) := fun b o c h => by simp [sealM, h]
theorem sealM_spec {m : Mem} {g : Gh} {fr : Frames} {w : World} {skip : Option Nat} {b o : Nat} {c : Value} (h : sealM m g fr w skip b o = some c) :
    m b o = some c ∨ (m b o = none ∧ w.cell? ⟨b, o, none⟩ = some c ∧ ∃ k lb l, lbAt? fr 0 k = some lb ∧ gAt g 0 k = some l ∧ lb.at_ l = some b ∧ some k ≠ skip) := by
  unfold sealM at h
  split at h
  · rename_i c' hc; cases h; exact .inl hc
  · rename_i hn
    split at h
    · rename_i hx; exact .inr ⟨hn, h, hx⟩
    · cases h
theorem sealM_own {m : Mem} {g : Gh} {fr : Frames} {w : World} {skip : Option Nat} (hp : PRel m g fr w) {k : Nat} {lb : LB} {l : LG} {b : Nat} (h0 : lbAt? fr 0 k = some lb) (hg : gAt g 0 k = some l) (ha : lb.at_ l = some b) (hk : some k ≠ skip)
    {o : Nat} {c : Value} (hc : w.cell? ⟨b, o, none⟩ = some c) : sealM m g fr w skip b o = some c := by
  unfold sealM
  split
  · rename_i c' hc'
    have := hp.mem _ _ _ hc'
    rw [hc] at this; exact this.symm
  · rw [if_pos ⟨k, lb, l, h0, hg, ha, hk⟩]
    exact hc

theorem FRel.leave {E : Entry} {m : Mem} {g : Gh} {fr : Frames} {w : World} (h : FRel E m g fr w) (skip : Option Nat) : Popped E.m E.g E.fr E.w (sealM m g fr w skip) g.tail fr.tail w := by
  obtain ⟨loc, up, rfl, hlen⟩ := h.shape
  obtain ⟨gl, g0, rfl, hg0⟩ := h.gt
  have hle := sealM_le m (gl :: g0) (loc :: up) w skip
  simp only [List.tail_cons]
  refine ⟨⟨fun b o c hc => ?_, by have := h.p.len; simp at this; omega, fun d k lb hb => ?_, fun d k d' k' lb lb' l l' b hb hg hb' hg' ha ha' => ?_, fun d k lb l b o c hb hg ha hc => ?_, fun d k l hg => ?_⟩,
    ⟨Mem.le_trans h.step.le hle, fun b o c hc hn => ?_, h.step.os, h.step.tape, h.step.output, h.step.size, h.step.block⟩, hg0, hlen, fun d k lb l b hb hg ha hlt => ?_⟩
  · rcases sealM_spec hc with h1 | ⟨_, h1, _⟩
    · exact h.p.mem b o c h1
    · exact h1
  · obtain ⟨l, h1, h2⟩ := h.p.blk (d + 1) k lb (by rw [lbAt?_cons_succ]; exact hb)
    rw [gAt_cons_succ] at h1
    exact ⟨l, h1, h2.kept hle (Gh.le_refl _) rfl fun b _ => rfl⟩
  · obtain ⟨e1, e2⟩ := h.p.excl (d + 1) k (d' + 1) k' lb lb' l l' b (by rw [lbAt?_cons_succ]; exact hb) (by rw [gAt_cons_succ]; exact hg) (by rw [lbAt?_cons_succ]; exact hb') (by rw [gAt_cons_succ]; exact hg') ha ha'
    exact ⟨by omega, e2⟩
  · rcases sealM_spec hc with h1 | ⟨_, _, k', lb', l', h1, h2, h3, _⟩
    · exact h.p.dis (d + 1) k lb l b o c (by rw [lbAt?_cons_succ]; exact hb) (by rw [gAt_cons_succ]; exact hg) ha h1
    · obtain ⟨e1, e2⟩ := h.p.excl (d + 1) k 0 k' lb lb' l l' b (by rw [lbAt?_cons_succ]; exact hb) (by rw [gAt_cons_succ]; exact hg) h1 h2 ha h3
      omega
  · obtain ⟨lb, hb⟩ := h.p.ghost (d + 1) k l (by rw [gAt_cons_succ]; exact hg)
    rw [lbAt?_cons_succ] at hb
    exact ⟨lb, hb⟩
  · rcases sealM_spec hc with h1 | ⟨_, _, k', lb', l', h1, h2, h3, _⟩
    · exact h.step.new b o c h1 hn
    · exact .inl (h.own k' lb' l' b h1 h2 h3)
  · obtain ⟨d', lb0, l0, e, e1, e2, e3⟩ := h.old (d + 1) k lb l b (by rw [lbAt?_cons_succ]; exact hb) (by rw [gAt_cons_succ]; exact hg) ha hlt
    have : d = d' := by omega
    subst this
    exact ⟨lb0, l0, e1, e2, e3⟩

/-- The rows of an array of this frame, sealed. -/
theorem arr_sealed {m : Mem} {g : Gh} {fr : Frames} {w : World} {skip : Option Nat} (hp : PRel m g fr w) {k sz : Nat} {rows : List (List RV)} (hlb : lbAt fr 0 k = .arr sz rows) (hk : some k ≠ skip) {l : LG} (hg : gAt g 0 k = some l) :
    l.sz = sz ∧ l.n = rows.length ∧ ∀ (i : Nat) (row : List RV), rows[i]? = some row → row.length = sz ∧ RowR (sealM m g fr w skip) l.b (i * sz) row := by
  obtain ⟨hlb0, l', hg', hr⟩ := lbAt_blk hp hlb (by simp)
  rw [hg] at hg'; cases hg'
  obtain ⟨n1, n2, n3, c, Et, hh, hc⟩ := hr
  refine ⟨n2, n1, fun i row hi => ⟨n3 _ (List.mem_of_getElem? hi), RowR.of_get fun j v hj => ?_⟩⟩
  obtain ⟨u, h1, h2, h3⟩ := hc i row j v hi hj
  refine ⟨u, sealM_own hp hlb0 hg rfl hk ?_, h2, VRr.mono (sealM_le _ _ _ _ _) _ _ h3⟩
  rw [cell_of_row _ _ _ c Et (0, 0) hh]; exact h1

theorem sealV_some {fr : Frames} {v : PV} {K : RV → Option R} {r : R} (h : sealV fr v K = some r) :
    ∃ rv, K rv = some r ∧ ∀ (m : Mem) (g : Gh) (w : World) (c : Value), PRel m g fr w → PVR m g v c → VRr (sealM m g fr w none) rv c := by
  have hle := fun (m : Mem) g fr w => sealM_le m g fr w none
  unfold sealV at h
  split at h
  · rename_i k off len
    split at h <;> first | (cases h; done) | skip
    rename_i sz rows hlb
    refine ⟨_, h, fun m g w c hp hc => ?_⟩
    obtain ⟨l, a, cap, hg, rfl, q1, q2, q3⟩ := hc
    obtain ⟨e1, e2, e3⟩ := arr_sealed (skip := none) hp hlb (by simp) hg
    have hlen : ((rows.drop off).take len).length = len := by
      simp
      rcases Nat.eq_zero_or_pos len with h0 | h0
      · omega
      · have := q3 (by omega); omega
    simp only [VRr]
    refine ⟨a, cap, by rw [hlen], by rw [hlen]; exact q1, fun hne => ?_, RowsR.of_get fun i row hi => ?_⟩
    · have h0 : 0 < len := by
        rcases Nat.eq_zero_or_pos len with h0 | h0
        · subst h0; simp at hne
        · exact h0
      have := q3 (by omega)
      rw [(q2 (by omega)).1]
    · have hil : i < len := by rw [← hlen]; exact (List.getElem?_eq_some_iff.1 hi).1
      have := q3 (by omega)
      obtain ⟨ha, _⟩ := q2 (by omega)
      rw [List.getElem?_take, if_pos hil, List.getElem?_drop] at hi
      obtain ⟨f1, f2⟩ := e3 _ row hi
      refine ⟨f1, ?_⟩
      rw [ha, e1]
      simp only
      rw [← Nat.add_mul]
      exact f2
  · rename_i k ri off
    split at h <;> first | (cases h; done) | skip
    · rename_i cells hlb
      split at h <;> first | (cases h; done) | skip
      obtain ⟨vs, h1, h2, h3⟩ := sealAll_some h
      refine ⟨_, h1, fun m g w c hp hc => ?_⟩
      obtain ⟨l, hg, rfl⟩ := hc
      obtain ⟨hlb0, l', hg', hr⟩ := lbAt_blk hp hlb (by simp)
      rw [hg] at hg'; cases hg'
      obtain ⟨n1, n2, cc, Et, hh, hcc⟩ := hr
      simp only [VRr]
      refine ⟨l.b, 0, by simp, RowR.of_get fun i v hi => ?_⟩
      have hil : i < cells.length := by rw [← h2]; exact (List.getElem?_eq_some_iff.1 hi).1
      obtain ⟨u, a, b, d⟩ := hcc i _ (List.getElem?_eq_getElem hil)
      refine ⟨u, sealM_own hp hlb0 hg rfl (by simp) ?_, b, VRr.mono (hle _ _ _ _) _ _ (h3 m _ i _ v u (List.getElem?_eq_getElem hil) hi d)⟩
      rw [cell_of_row _ _ _ cc Et (0, 0) hh, Nat.zero_add]; exact a
    · rename_i sz rows hlb
      split at h <;> first | (cases h; done) | skip
      rename_i row hrow
      refine ⟨_, h, fun m g w c hp hc => ?_⟩
      obtain ⟨l, hg, rfl⟩ := hc
      obtain ⟨hlb0, l', hg', hr⟩ := lbAt_blk hp hlb (by simp)
      rw [hg] at hg'; cases hg'
      obtain ⟨n1, n2, hr⟩ := hr
      obtain ⟨_, f2⟩ := RowsR.get hr hrow
      simp only [VRr]
      refine ⟨l.b, ri * sz, by rw [n2], RowR.mono (hle _ _ _ _) _ _ _ (by simpa using f2)⟩
    · rename_i sz rows hlb
      split at h <;> first | (cases h; done) | skip
      rename_i row hrow
      refine ⟨_, h, fun m g w c hp hc => ?_⟩
      obtain ⟨l, hg, rfl⟩ := hc
      obtain ⟨e1, e2, e3⟩ := arr_sealed (skip := none) hp hlb (by simp) hg
      simp only [VRr]
      exact ⟨l.b, ri * sz, by rw [e1], (e3 ri row hrow).2⟩
  · obtain ⟨rv, h1, h2⟩ := wRo_some h
    exact ⟨rv, h1, fun m g w c hp hc => VRr.mono (hle _ _ _ _) _ _ (h2 m g c hc)⟩

theorem sealVs_some {fr : Frames} : ∀ {vs : List PV} {K : List RV → Option R} {r : R}, sealVs fr vs K = some r →
    ∃ rvs, K rvs = some r ∧ ∀ (m : Mem) (g : Gh) (w : World) (cs : List Value), PRel m g fr w → PVsR m g vs cs → ListR (sealM m g fr w none) rvs cs
  | [], K, r, h => ⟨[], by simpa [sealVs] using h, fun m g w cs _ hc => by
      have : cs = [] := List.eq_nil_of_length_eq_zero (by simpa using hc.1)
      subst this; simp [ListR]⟩
  | v :: vs, K, r, h => by
    simp only [sealVs] at h
    obtain ⟨rv, h1, h2⟩ := sealV_some h
    obtain ⟨rvs, h3, h4⟩ := sealVs_some h1
    refine ⟨_, h3, fun m g w cs hp hc => ?_⟩
    obtain ⟨c, cs', rfl, e1, e2⟩ := hc.uncons
    simp only [ListR]
    exact ⟨c, cs', rfl, h2 m g w c hp e1, h4 m g w cs' hp e2⟩

theorem loadVar_of_loadAt {t : TypeId} {c u : Value} {w : World} (h : (Instr.loadAt t c).run P w = .ok u w) : (do loadVar t (← asAddr c) : Sem Value).run P w = .ok u w := by
  cases c with
  | pointer a =>
    cases a with
    | none => simp [Instr.loadAt, Instr.sureAddr] at h
    | some a => simpa [Instr.loadAt, Instr.sureAddr, asAddr] using h
  | _ => simp [Instr.loadAt, Instr.sureAddr] at h

theorem resVals_some {st : St} : ∀ {rs : List ResultVar} {K : List PV → Option R} {r : R}, resVals P st rs K = some r →
    ∃ vs, K vs = some r ∧ vs.length = rs.length ∧ ∀ (E : Entry) (m : Mem) (g : Gh) (a : Act) (w : World), SRel E m g st a w → ∃ cs, PVsR m g vs cs ∧
      (rs.mapM (m := Sem) fun
        | .tmp t => pure (a.tmps.getD t undef)
        | .cell x t => do loadVar t (← asAddr (a.tmps.getD x undef))).run P w = .ok cs w
  | [], K, r, h => ⟨[], by simpa [resVals] using h, rfl, fun E m g a w _ => ⟨[], PVsR.nil m g, by simp⟩⟩
  | .tmp t :: rs, K, r, h => by
    simp only [resVals] at h
    obtain ⟨vs, h1, h2, h3⟩ := resVals_some h
    refine ⟨_, h1, by simp [h2], fun E m g a w hs => ?_⟩
    obtain ⟨cs, e1, e2⟩ := h3 E m g a w hs
    refine ⟨_, PVsR.cons (hs.ev (.tmp t)) e1, ?_⟩
    simp only [List.mapM_cons, Sem.run_bind, Sem.run_pure, Result.andThen_ok, e2]
    rfl
  | .cell x t :: rs, K, r, h => by
    simp only [resVals] at h
    obtain ⟨v, h1, h2⟩ := loadK_some h
    obtain ⟨vs, h3, h4, h5⟩ := resVals_some h1
    refine ⟨_, h3, by simp [h4], fun E m g a w hs => ?_⟩
    obtain ⟨cs, e1, e2⟩ := h5 E m g a w hs
    obtain ⟨u, q1, q2⟩ := h2 m g w _ hs.f.p (hs.ev (.tmp x))
    refine ⟨_, PVsR.cons q2 e1, ?_⟩
    have q3 := loadVar_of_loadAt q1
    simp only [Act.eval] at q3
    rw [List.mapM_cons, Sem.run_bind, q3, Result.andThen_ok, Sem.run_bind, e2, Result.andThen_ok]
    rfl

end Go.PM

set_option linter.unusedSectionVars false
namespace Go.PM
variable [LoopCodes]
variable {R : Type} {P : Program}

def oneOr : List Value → Value
  | [c] => c
  | cs => .tuple cs.toArray

theorem oneOr_eq (cs : List Value) : (if h : cs.toArray.size = 1 then cs.toArray[0] else Value.tuple cs.toArray) = oneOr cs := by
  match cs with
  | [] => rfl
  | [c] => rfl
  | c :: c' :: cs => simp [oneOr]

theorem results_run {fn : Func} {a : Act} {w : World} {cs : List Value}
    (h : (fn.results.toList.mapM (m := Sem) fun
        | .tmp t => pure (a.tmps.getD t undef)
        | .cell x t => do loadVar t (← asAddr (a.tmps.getD x undef))).run P w = .ok cs w) :
    (results fn a.tmps).run P w = .ok (oneOr cs) w := by
  unfold results
  rw [Array.mapM_eq_mapM_toList, Sem.run_bind, Sem.run_map]
  have h' := h
  revert h'
  generalize hx : (List.mapM (m := Sem) _ fn.results.toList).run P w = x
  intro h'
  refine Eq.trans (congrArg (fun z => Result.andThen (Result.andThen z _) _) (hx.symm.trans h)) ?_
  simp only [Result.andThen_ok, Sem.run_pure]
  rw [oneOr_eq]

theorem retK_some {mv : Bool} {fn : Func} {st : St} {K : PV → Option LB → Frames → Option R} {r : R} (h : retK P mv fn st K = some r) :
    ∃ v lb fr', K v lb fr' = some r ∧ ∀ (E : Entry) (m : Mem) (g : Gh) (a : Act) (w : World), SRel E m g st a w →
      ∃ c m' g', (results fn a.tmps).run P w = .ok c w ∧ Popped E.m E.g E.fr E.w m' g' fr' w ∧ RetR m' g' fr' E.w w v lb c := by
  unfold retK at h
  obtain ⟨vs, h1, h2, h3⟩ := resVals_some h
  clear h
  -- one sealed result
  have one : ∀ v, vs = [v] → ∀ rv, (∀ (m : Mem) (g : Gh) (w : World) (c : Value), PRel m g st.fr w → PVR m g v c → VRr (sealM m g st.fr w none) rv c) → K (.ro rv) none st.fr.tail = some r →
      ∃ v lb fr', K v lb fr' = some r ∧ ∀ (E : Entry) (m : Mem) (g : Gh) (a : Act) (w : World), SRel E m g st a w →
      ∃ c m' g', (results fn a.tmps).run P w = .ok c w ∧ Popped E.m E.g E.fr E.w m' g' fr' w ∧ RetR m' g' fr' E.w w v lb c := fun v hv rv hrv hK => by
    refine ⟨_, _, _, hK, fun E m g a w hs => ?_⟩
    obtain ⟨cs, e1, e2⟩ := h3 E m g a w hs
    subst hv
    obtain ⟨c, cs', rfl, q1, q2⟩ := e1.uncons
    have : cs' = [] := List.eq_nil_of_length_eq_zero q2.1
    subst this
    exact ⟨c, _, _, results_run e2, hs.f.leave none, hrv m g w c hs.f.p q1⟩
  split at h1
  · rename_i v
    split at h1
    · rename_i d k off len
      refine ⟨_, _, _, h1, fun E m g a w hs => ?_⟩
      obtain ⟨cs, e1, e2⟩ := h3 E m g a w hs
      obtain ⟨c, cs', rfl, q1, q2⟩ := e1.uncons
      have : cs' = [] := List.eq_nil_of_length_eq_zero q2.1
      subst this
      refine ⟨c, _, _, results_run e2, hs.f.leave none, ?_⟩
      obtain ⟨gl, gu, rfl, _⟩ := hs.f.gt
      obtain ⟨l, b, cap, f1, f2⟩ := q1
      exact ⟨l, b, cap, by rw [gAt_cons_succ] at f1; exact f1, f2⟩
    · rename_i d k ri off
      refine ⟨_, _, _, h1, fun E m g a w hs => ?_⟩
      obtain ⟨cs, e1, e2⟩ := h3 E m g a w hs
      obtain ⟨c, cs', rfl, q1, q2⟩ := e1.uncons
      have : cs' = [] := List.eq_nil_of_length_eq_zero q2.1
      subst this
      refine ⟨c, _, _, results_run e2, hs.f.leave none, ?_⟩
      obtain ⟨gl, gu, rfl, _⟩ := hs.f.gt
      obtain ⟨l, f1, f2⟩ := q1
      exact ⟨l, by rw [gAt_cons_succ] at f1; exact f1, f2⟩
    · rename_i k off len
      split at h1
      · split at h1 <;> first | (cases h1; done) | skip
        rename_i sz rows hlb
        split at h1 <;> first | (cases h1; done) | skip
        rename_i hl
        have hl' : len = rows.length := by simpa using hl
        subst hl'
        refine ⟨_, _, _, h1, fun E m g a w hs => ?_⟩
        obtain ⟨cs, e1, e2⟩ := h3 E m g a w hs
        obtain ⟨c, cs', rfl, q1, q2⟩ := e1.uncons
        have : cs' = [] := List.eq_nil_of_length_eq_zero q2.1
        subst this
        refine ⟨c, _, _, results_run e2, hs.f.leave (some k), ?_⟩
        obtain ⟨l, b, cap, f1, rfl, f2, f3, f4⟩ := q1
        obtain ⟨hlb0, l', hg', hr⟩ := lbAt_blk hs.f.p hlb (by simp)
        rw [f1] at hg'; cases hg'
        have hm0 : ∀ o, m l.b o = none := fun o => by
          cases hm : m l.b o with
          | none => rfl
          | some c =>
            obtain ⟨sz', n, e, _⟩ := hs.f.p.dis 0 k _ l l.b o c hlb0 f1 rfl hm
            cases e
        obtain ⟨n1, n2, n3, n4⟩ := hr
        refine ⟨sz, rows, l, b, cap, rfl, rfl, fun g' => ⟨n1, n2, n3, ?_⟩, hs.f.own k _ l l.b hlb0 f1 rfl, fun o => ?_, fun d' k' lb0 l0 hb hg ha => ?_, rfl, f2, fun h0 => ?_⟩
        · obtain ⟨ca, Et, hh, hc⟩ := n4
          refine ⟨ca, Et, hh, fun i row j v a b => ?_⟩
          obtain ⟨u, x, y, z⟩ := hc i row j v a b
          exact ⟨u, x, y, VRr.mono (sealM_le _ _ _ _ _) _ _ z⟩
        · cases hm : sealM m g st.fr w (some k) l.b o with
          | none => rfl
          | some c =>
            rcases sealM_spec hm with x | ⟨_, _, k', lb', l', x1, x2, x3, x4⟩
            · rw [hm0 o] at x; cases x
            · obtain ⟨_, e⟩ := hs.f.p.excl 0 k 0 k' _ _ _ _ l.b hlb0 f1 x1 x2 rfl x3
              subst e
              exact absurd rfl x4
        · obtain ⟨loc, up, hfr, _⟩ := hs.f.shape
          obtain ⟨gl, gu, rfl, _⟩ := hs.f.gt
          have hp := hs.f.p
          rw [hfr] at hp hlb0 hb
          simp only [List.tail_cons] at hb
          obtain ⟨e, _⟩ := hp.excl 0 k (d' + 1) k' _ _ _ _ l.b hlb0 f1 (by rw [lbAt?_cons_succ]; exact hb) (by rw [gAt_cons_succ]; exact hg) rfl ha
          omega
        · obtain ⟨x1, x2⟩ := f3 h0
          exact ⟨by simpa using x1, by omega⟩
      · obtain ⟨rv, q1, q2⟩ := sealV_some h1
        exact one _ rfl rv q2 q1
    · obtain ⟨rv, q1, q2⟩ := sealV_some h1
      exact one _ rfl rv q2 q1
  · rename_i hne
    obtain ⟨rvs, q1, q2⟩ := sealVs_some h1
    refine ⟨_, _, _, q1, fun E m g a w hs => ?_⟩
    obtain ⟨cs, e1, e2⟩ := h3 E m g a w hs
    refine ⟨_, _, _, results_run e2, hs.f.leave none, ?_⟩
    have hl := q2 m g w cs hs.f.p e1
    have : oneOr cs = .tuple cs.toArray := by
      match cs, e1.1 with
      | [c], hl1 =>
        obtain ⟨v, hv⟩ := List.length_eq_one_iff.1 hl1.symm
        exact absurd hv (hne v)
      | [], _ => rfl
      | _ :: _ :: _, _ => rfl
    rw [this]
    simp only [RetR, PVR, SVR, VRr]
    exact ⟨cs, rfl, hl⟩

end Go.PM

set_option linter.unusedSectionVars false
namespace Go.PM
variable [LoopCodes]
variable {R : Type} {P : Program}

def toExit : PExit → Exit
  | .normal => .normal
  | .exit id => .exit id
  | .ret => .ret

def Entry.keeps (E : Entry) (kp : List (Nat × Obj)) : Entry := { E with keep := kp ++ E.keep }
theorem Entry.keeps_nil (E : Entry) : E.keeps [] = E := rfl
theorem Entry.keeps_keeps (E : Entry) (a b : List (Nat × Obj)) : (E.keeps a).keeps b = E.keeps (b ++ a) := by simp [Entry.keeps]

/-- How a piece of code ends. -/
def QK (E : Entry) (K : PExit → St → Option R) (r : R) : Exit → Act → World → Prop :=
  fun e a w => ∃ pe m g st kp, e = toExit pe ∧ K pe st = some r ∧ SRel (E.keeps kp) m g st a w

theorem QK.of {E : Entry} {K : PExit → St → Option R} {r : R} {pe : PExit} {m : Mem} {g : Gh} {st : St} {a : Act} {w : World} (hK : K pe st = some r) (hs : SRel E m g st a w) : QK E K r (toExit pe) a w :=
  ⟨pe, m, g, st, [], rfl, hK, hs⟩
theorem QK.up {E : Entry} {kp : List (Nat × Obj)} {K : PExit → St → Option R} {r : R} {e : Exit} {a : Act} {w : World} (h : QK (E.keeps kp) K r e a w) : QK E K r e a w := by
  obtain ⟨pe, m, g, st, kp', h1, h2, h3⟩ := h
  exact ⟨pe, m, g, st, kp' ++ kp, h1, h2, by rw [← Entry.keeps_keeps]; exact h3⟩

/-- A region that draws its order. -/
def DrawSound (P : Program) (hh : Hint) (f : FuncId) (call : CallF R) : Prop :=
  ∀ (E : Entry) (ops : Array Oper) (id : Nat) (K : St → Option R) (r : R) (m : Mem) (g : Gh) (st : St) (a : Act) (w : World) (Q : Exit → Act → World → Prop) (ro : Option Nat) (n : Nat), drawOK hh f ops = true → SRel E m g st a w →
    pmOps P hh f call ops (some (st.fr.headD []).length) ops.toList 0 st K = some r → (∀ m g st a w, SRel E m g st a w → K st = some r → Q .normal a w) → (Code.region id ops true).wpIn (FF ro) n P Q a w

theorem pmLoopN_wp {c : Code} {nm : Option (List Shape × List LShape)} {body : St → (PExit → St → Option R) → Option R} {r : R} {ro : Option Nat} {nf : Nat}
    (hbody : ∀ (E : Entry) (K : PExit → St → Option R) (m : Mem) (g : Gh) (st : St) (a : Act) (w : World), SRel E m g st a w → body st K = some r → c.wpIn (FF ro) nf P (QK E K r) a w) {K : PExit → St → Option R} {E : Entry} :
    ∀ (n : Nat) (kp : List (Nat × Obj)) (m : Mem) (g : Gh) (st : St) (a : Act) (w : World), SRel (E.keeps kp) m g st a w → pmLoopN nm body n st K = some r → Code.roundsIn (FF ro) nf P c (QK E K r) n a w
  | 0, kp, m, g, st, a, w, hs, h => by simp [pmLoopN] at h
  | n + 1, kp, m, g, st, a, w, hs, h => by
    simp only [pmLoopN] at h
    rw [roundsIn_succ]
    refine wpIn_mono (hbody _ _ m g st a w hs h) ?_
    rintro e a' w' ⟨pe, m', g', st', kp', rfl, hK, hs'⟩
    rw [Entry.keeps_keeps] at hs'
    cases pe with
    | normal =>
      obtain ⟨st'', h1, h2⟩ := normK_some hK
      obtain ⟨g'', hs''⟩ := h2 _ m' g' a' w' hs'
      exact pmLoopN_wp hbody n _ m' g'' st'' a' w' hs'' h1
    | exit id => exact ⟨.exit id, m', g', st', _, rfl, hK, hs'⟩
    | ret => exact ⟨.ret, m', g', st', _, rfl, hK, hs'⟩

/-- A block that is nobody's: what a frame knows stays; it may be kept. -/
theorem FRel.other {E : Entry} {m : Mem} {g : Gh} {fr : Frames} {w : World} (h : FRel E m g fr w) (o : Obj) : FRel (E.keeps [(w.heap.size, o)]) m g fr (w.alloc o) := by
  have hold : ∀ b, b < w.heap.size → (w.alloc o).heap[b]? = w.heap[b]? := fun b hb => heap_alloc_old w o b hb
  have hat : ∀ d k lb l b, lbAt? fr d k = some lb → gAt g d k = some l → lb.at_ l = some b → b < w.heap.size := fun d k lb l b h0 g0 a0 => by
    obtain ⟨l1, g1, hr⟩ := h.p.blk d k lb h0
    rw [g0] at g1; cases g1
    exact hr.lt a0
  refine ⟨⟨fun b o' c hc => ?_, h.p.len, fun d k lb h0 => ?_, h.p.excl, h.p.dis, h.p.ghost⟩,
    ⟨h.step.le, h.step.new, h.step.os, h.step.tape, h.step.output, Nat.le_trans h.step.size (by simp), fun b hb hne => (hold b (Nat.lt_of_lt_of_le hb h.step.size)).trans (h.step.block b hb hne)⟩, h.gt, h.shape, h.old, fun b o' hk => ?_⟩
  · exact (World.cell?_of_block (w := w) (hold b (mem_lt h.p hc))).trans (h.p.mem b o' c hc)
  · obtain ⟨l, g0, hr⟩ := h.p.blk d k lb h0
    exact ⟨l, g0, hr.kept (Mem.le_refl m) (Gh.le_refl _) rfl fun b hb => hold b (hr.lt hb)⟩
  · simp only [Entry.keeps, List.mem_append, List.mem_singleton] at hk
    rcases hk with e | hk
    · cases e
      exact ⟨World.alloc_heap_new w o, fun d k lb l h0 g0 a0 => by have := hat d k lb l _ h0 g0 a0; omega⟩
    · obtain ⟨h1, h2⟩ := h.kp b o' hk
      exact ⟨(hold b (Array.getElem?_eq_some_iff.1 h1).1).trans h1, h2⟩

theorem snapK_some {tmps : List PV} : ∀ {l : List Nat} {K : List (Nat × PV) → Option R} {r : R}, snapK tmps l K = some r → ∃ env, K env = some r ∧ ∀ t v, (t, v) ∈ env → tmps[t]? = some v
  | [], K, r, h => ⟨[], h, fun t v h => by cases h⟩
  | t :: ts, K, r, h => by
    simp only [snapK] at h
    split at h <;> first | (cases h; done) | skip
    rename_i v hv
    obtain ⟨env, h1, h2⟩ := snapK_some h
    refine ⟨_, h1, fun t' v' h' => ?_⟩
    rcases List.mem_cons.1 h' with e | h'
    · cases e; exact hv
    · exact h2 _ _ h'

/-- A loop's record is laid. -/
theorem FRel.newLoop {E : Entry} {m : Mem} {g : Gh} {fr : Frames} {w : World} (h : FRel E m g fr w) {f key : Nat} {lc : LoopCode} (hlc : LoopCodes.at_ f key = some lc) {rec : Loop} (h1 : rec.params.toList = lc.ps) (h2 : rec.assign = lc.assign) (h3 : rec.body = lc.body) (h4 : rec.state = .ready) (h5 : rec.pending = none)
    {env : List (Nat × PV)} (henv : ∀ (t : Nat) (v : PV), (t, v) ∈ env → ∃ u, rec.tmps[t]? = some u ∧ PVR m g v u) {K : Frames → Option R} {r : R} (hK : allocK fr (fr.headD []).length (.loop f key rec.tmps.size env .ready) K = some r) :
    ∃ fr' g' l, K fr' = some r ∧ FRel E m g' fr' (w.alloc (.loop rec)) ∧ g.le g' ∧ gAt g' 0 (fr.headD []).length = some l ∧ l.b = w.heap.size ∧ fr'.length = fr.length := by
  obtain ⟨loc, up, rfl, hix, hK⟩ := allocK_some hK
  obtain ⟨gl, g0, rfl, hg0⟩ := h.gt
  simp only [List.headD_cons] at hK hix ⊢
  let l : LG := ⟨w.heap.size, 0, 0, fun _ => none⟩
  have hgle : Gh.le (gl :: g0) (setG gl loc.length l :: g0) := (fun d k l0 h0 => by
    refine ⟨l0, ?_, l0.le_refl⟩
    rw [gAt_setG, if_neg]
    · exact h0
    · rintro ⟨rfl, rfl⟩
      obtain ⟨lb0, hb⟩ := h.p.ghost 0 _ l0 h0
      have := lbAt?_some.1 hb
      unfold lbAt at this
      simp only [List.getD_cons_zero, hix] at this
      exact this.2 this.1.symm)
  obtain ⟨fr1, hle⟩ := h.alloc (w' := w.alloc (.loop rec)) (lb := .loop f key rec.tmps.size env .ready) (l := l) hix rfl rfl rfl (by simp) (fun b hb => heap_alloc_old w _ b hb)
    ⟨rfl, rfl, rec, lc, World.alloc_heap_new w _, hlc, h1, h2, h3, ⟨h4, h5⟩, rfl, fun t v ht => by
      obtain ⟨u, a, b⟩ := henv t v ht
      exact ⟨u, a, b.mono (Mem.le_refl m) hgle⟩⟩
    (fun b hb => by cases hb; exact Nat.le_refl _) (by simp)
  exact ⟨_, _, l, hK, fr1, hle, by rw [gAt_setG, if_pos ⟨rfl, rfl⟩], rfl, by simp⟩

theorem pmCode_wp {hh : Hint} (hE : EqOK P hh) {call : CallF R} (hC : CallOK P call) {f : FuncId} (hD : DrawSound P hh f call) {r : R} {ro : Option Nat} {n : Nat} :
    ∀ (c : Code), (∀ x ∈ ranges c, LoopCodes.at_ f x.1 = some x.2) → (ro = none ∨ ranges c = []) → ∀ (E : Entry) (K : PExit → St → Option R) (m : Mem) (g : Gh) (st : St) (a : Act) (w : World), SRel E m g st a w → pmCode P hh f call c st K = some r → c.wpIn (FF ro) n P (QK E K r) a w
  | .skip, hl, hr, E, K, m, g, st, a, w, hs, h => wpIn_skip (QK.of (pe := .normal) (by simpa [pmCode] using h) hs)
  | .region id ops draw, hl, hr, E, K, m, g, st, a, w, hs, h => by
    cases draw with
    | false =>
      simp only [pmCode] at h
      exact wpIn_region_list (pmOps_wp hE hC (fun m g st a w hs hK => QK.of (pe := .normal) hK hs) _ _ m g st a w hs h)
    | true =>
      simp only [pmCode] at h
      split at h <;> first | (cases h; done) | skip
      rename_i hd
      exact hD E ops id _ r m g st a w _ ro n hd hs h fun m g st a w hs hK => QK.of (pe := .normal) hK hs
  | .seq x y, hl, hr, E, K, m, g, st, a, w, hs, h => by
    simp only [pmCode] at h
    simp only [ranges, List.mem_append] at hl
    have hr1 : ro = none ∨ ranges x = [] := hr.imp id fun e => by simp only [ranges, List.append_eq_nil_iff] at e; exact e.1
    have hr2 : ro = none ∨ ranges y = [] := hr.imp id fun e => by simp only [ranges, List.append_eq_nil_iff] at e; exact e.2
    refine wpIn_seq (wpIn_mono (pmCode_wp hE hC hD x (fun x hx => hl x (.inl hx)) hr1 E _ m g st a w hs h) ?_)
    rintro e a' w' ⟨pe, m', g', st', kp, rfl, hK, hs'⟩
    cases pe with
    | normal => exact wpIn_mono (pmCode_wp hE hC hD y (fun x hx => hl x (.inr hx)) hr2 _ K m' g' st' a' w' hs' hK) fun e a w h => h.up
    | exit id => exact ⟨.exit id, m', g', st', kp, rfl, hK, hs'⟩
    | ret => exact ⟨.ret, m', g', st', kp, rfl, hK, hs'⟩
  | .cond c x y, hl, hr, E, K, m, g, st, a, w, hs, h => by
    simp only [pmCode] at h
    simp only [ranges, List.mem_append] at hl
    have hr1 : ro = none ∨ ranges x = [] := hr.imp id fun e => by simp only [ranges, List.append_eq_nil_iff] at e; exact e.1
    have hr2 : ro = none ∨ ranges y = [] := hr.imp id fun e => by simp only [ranges, List.append_eq_nil_iff] at e; exact e.2
    obtain ⟨b, hb, h1⟩ := wBool_some h
    have hc := hs.ev c
    rw [hb] at hc
    have hc' := pv_bool hc
    cases b with
    | true => exact wpIn_cond_true hc' (pmCode_wp hE hC hD x (fun x hx => hl x (.inl hx)) hr1 E K m g st a w hs h1)
    | false => exact wpIn_cond_false hc' (pmCode_wp hE hC hD y (fun x hx => hl x (.inr hx)) hr2 E K m g st a w hs h1)
  | .block id c, hl, hr, E, K, m, g, st, a, w, hs, h => by
    simp only [pmCode] at h
    refine wpIn_block (wpIn_mono (pmCode_wp hE hC hD c hl hr E _ m g st a w hs h) ?_)
    rintro e a' w' ⟨pe, m', g', st', kp, rfl, hK, hs'⟩
    cases pe with
    | normal => exact ⟨.normal, m', g', st', kp, rfl, hK, hs'⟩
    | exit id' =>
      simp only [toExit, Exit.inBlock]
      simp only at hK
      split at hK
      · rename_i he
        have : id' = id := by simpa using he
        rw [if_pos this]
        exact ⟨.normal, m', g', st', kp, rfl, hK, hs'⟩
      · rename_i he
        have : ¬ id' = id := fun e => by subst e; simp at he
        rw [if_neg this]
        exact ⟨.exit id', m', g', st', kp, rfl, hK, hs'⟩
    | ret => exact ⟨.ret, m', g', st', kp, rfl, hK, hs'⟩
  | .loop c, hl, hr, E, K, m, g, st, a, w, hs, h => by
    simp only [pmCode] at h
    obtain ⟨st', h1, h2⟩ := normK_some h
    obtain ⟨g', hs'⟩ := h2 E m g a w hs
    exact wpIn_loop_rounds _ (pmLoopN_wp (fun E K m g st a w hs h => pmCode_wp hE hC hD c hl hr E K m g st a w hs h) _ [] m g' st' a w hs' h1)
  | .exit id, hl, hr, E, K, m, g, st, a, w, hs, h => wpIn_exit (QK.of (pe := .exit id) (by simpa [pmCode] using h) hs)
  | .ret, hl, hr, E, K, m, g, st, a, w, hs, h => wpIn_ret (QK.of (pe := .ret) (by simpa [pmCode] using h) hs)
  | .rangeFunc gx ps ca cb, hl, hr, E, K, m, g, st, a, w, hs, h => by
    have hro : ro = none := hr.resolve_right (by simp [ranges])
    subst hro
    have hlc := hl (keyOf ca cb, ⟨ps.toList, ca, cb⟩) (by simp [ranges])
    simp only [pmCode] at h
    obtain ⟨env, h, henv⟩ := snapK_some h
    refine wpIn_rangeFunc fun fn _ => ?_
    -- what is laid
    have f0 := hs.f.other (.deferred (some []))
    let rec0 : Loop := { state := .ready, pending := none, fn, tmps := a.tmps, params := ps, assign := ca, body := cb, defers := w.heap.size }
    have hsz : rec0.tmps.size = st.tmps.length := hs.len.symm
    rw [← hsz] at h
    obtain ⟨fr1, g1, l, h, f1, hle1, hl1, hlb, hlen1⟩ := f0.newLoop hlc (rec := rec0) rfl rfl rfl rfl rfl (fun t v ht => by
      have h1 := henv t v ht
      have h2 : t < a.tmps.size := by rw [← hs.len]; exact (List.getElem?_eq_some_iff.1 h1).1
      exact ⟨_, Array.getElem?_eq_getElem h2, hs.tmps t v _ h1 (Array.getElem?_eq_getElem h2)⟩) h
    have hlb' : l.b = w.heap.size + 1 := by rw [hlb]; simp
    -- the call
    have go : ∀ (gf : FuncId) (cs : List Value) (args : List PV), a.eval gx = .func (.func gf) #[] cs.toArray → (∀ gl, PVsR m (gl :: g1) args cs) →
        call.fn gf (.s (.yld 1 (st.fr.headD []).length) :: args) fr1 (fun _ mv fr' => match mv with
          | none => (match lbAt fr' 0 (st.fr.headD []).length with
            | .loop _ _ _ _ .ready => K .normal ⟨st.tmps, setAt fr' 0 (st.fr.headD []).length (.froz 0 [])⟩
            | .loop _ _ _ _ (.done e) => K e ⟨st.tmps, setAt fr' 0 (st.fr.headD []).length (.froz 0 [])⟩
            | _ => none)
          | some _ => none) = some r → ∃ (l : Nat) (mark : List Deferred) (w₁ : World) (d : Deferred) (w₁' : World) (f : FuncId) (args : Array Value) (w₂ : World),
            (Instr.enterLoop fn a.tmps ps ca cb (FF none).round).run P w = .ok (l, mark) w₁ ∧ (resolve a.eval (rangeCall gx l) 0).run P w₁ = .ok d w₁' ∧ (∀ f', Target.leads P w₁' d.target d.args = some f' → (FF none).fn f') ∧
            (invoke d.target d.args).run P w₁' = .ok (.enter f args) w₂ ∧ ((FF none).depth.isSome = true → 1 ≤ n) ∧ CallsIn (FF none) (n - 1) P f args w₂ (rangePost (FF none) n P l (QK E K r) { a with defers := mark ++ a.defers }) := fun gf cs args hg hargs hcall => by
      obtain ⟨hent, hcalls⟩ := hC.fn _ _ _ _ _ hcall
      have hc := hcalls m g1 _ (Value.func (.yield l.b) #[] #[] :: cs) f1.p (fun gl => PVsR.cons ⟨l, by rw [gAt_cons_succ]; exact hl1, rfl⟩ (hargs gl))
      have e0 : (#[] ++ #[Value.func (.yield (w.heap.size + 1)) #[] #[]] ++ cs.toArray : Array Value) = (Value.func (.yield l.b) #[] #[] :: cs).toArray := by
        rw [hlb']; apply Array.ext'; simp
      refine ⟨w.heap.size + 1, [mark w.heap.size], _, { target := .fn (.func gf) cs.toArray, args := #[] ++ #[Value.func (.yield (w.heap.size + 1)) #[] #[]] }, (w.alloc (.deferred (some []))).alloc (.loop rec0), gf, (Value.func (.yield l.b) #[] #[] :: cs).toArray, _, run_enterLoop_outer (P := P) (w := w) fn a.tmps ps ca cb, ?_, fun f' _ => trivial, ?_, fun hd => by simp [Fence.wide] at hd, callsIn_wide.2 (hc.mono ?_)⟩
      · have e1 : Array.map a.eval #[Operand.const (Value.func (.yield (w.heap.size + 1)) #[] #[])] = #[Value.func (.yield (w.heap.size + 1)) #[] #[]] := by simp [Act.eval]
        simp only [resolve, hg, Deferred.ofValue, Sem.run_bind, Sem.run_pure, Result.andThen_ok, e1]
        rfl
      · have := enter_run hent (Value.func (.yield l.b) #[] #[] :: cs).toArray ((w.alloc (.deferred (some []))).alloc (.loop rec0))
        rw [← e0] at this ⊢
        exact this
      · rintro e w3 ⟨c, m', g', v, mv, fr', rfl, hK, hpop, hret⟩
        have f3 := f1.popped hpop
        obtain ⟨l', hl', hll⟩ := hpop.le _ _ _ hl1
        simp only at hK
        split at hK <;> first | (cases hK; done) | skip
        -- the loop's end
        have fin : ∀ (ff kk nn : Nat) (ee : List (Nat × PV)) (stt : LState) (pe : PExit), lbAt fr' 0 (st.fr.headD []).length = .loop ff kk nn ee stt → (∀ rr : Loop, LSR stt rr → rr.state ≠ .busy ∧ rr.pending = pe.code) →
            K pe ⟨st.tmps, setAt fr' 0 (st.fr.headD []).length (.froz 0 [])⟩ = some r → rangePost (FF none) n P (w.heap.size + 1) (QK E K r) { a with defers := [mark w.heap.size] ++ a.defers } (.returned c) w3 := fun ff kk nn ee stt pe hlbe hst hKe => by
          obtain ⟨hlb0, l2, hl2, hr2⟩ := lbAt_blk f3.p hlbe (by simp)
          rw [hl'] at hl2; cases hl2
          obtain ⟨n1, n2, rr, lc, hh, _, _, _, _, hls, _⟩ := hr2
          obtain ⟨hbz, hpd⟩ := hst rr hls
          have hbl : l'.b = w.heap.size + 1 := by rw [hll.b, hlb']
          rw [hbl] at hh
          have hlt := (Array.getElem?_eq_some_iff.1 hh).1
          have f4 := f3.write (w' := w3.putObj (w.heap.size + 1) (.loop { rr with state := .exhausted })) (lb' := .froz 0 []) hlb0 hl' rfl (.inr rfl) (by simp) (by simp) (by simp) rfl rfl rfl (by simp)
            (fun b hb => World.putObj_heap_other (by rw [← hbl]; exact hb)) ⟨n1, n2, by simp [RowsR]⟩
          have hm := hpop.step.le
          have hg2 : g.le g' := Gh.le_trans hle1 hpop.le
          have hs4 : SRel (E.keeps [(w.heap.size, .deferred (some []))]) m' g' ⟨st.tmps, setAt fr' 0 (st.fr.headD []).length (.froz 0 [])⟩ { a with defers := [mark w.heap.size] ++ a.defers } (w3.putObj (w.heap.size + 1) (.loop { rr with state := .exhausted })) := by
            refine ⟨f4, hs.len, fun i v c a1 b1 => (hs.tmps i v c a1 b1).mono hm hg2, ?_⟩
            obtain ⟨bs, e1, e2, e3⟩ := hs.dfr
            refine ⟨w.heap.size :: bs, by simp [e1], List.nodup_cons.2 ⟨fun hin => ?_, e2⟩, fun b hb => ?_⟩
            · have := (Array.getElem?_eq_some_iff.1 (hs.f.kp _ _ (e3 _ hin).1).1).1
              omega
            · rcases List.mem_cons.1 hb with rfl | hb
              · exact ⟨by simp [Entry.keeps], hs.f.step.size⟩
              · exact ⟨List.mem_append_right _ (e3 b hb).1, (e3 b hb).2⟩
          refine ⟨rr.pending, _, run_endLoop hh hbz, ?_⟩
          rw [hpd] at hs4 ⊢
          cases pe with
          | normal => exact ⟨.normal, m', g', _, _, rfl, hKe, hs4⟩
          | exit id => exact wpIn_exit ⟨.exit id, m', g', _, _, rfl, hKe, hs4⟩
          | ret => exact wpIn_ret ⟨.ret, m', g', _, _, rfl, hKe, hs4⟩
        split at hK <;> first | (cases hK; done) | skip
        · rename_i ff kk nn ee hlbe
          exact fin _ _ _ _ _ .normal hlbe (fun rr hrr => ⟨by rw [hrr.1]; simp, hrr.2⟩) hK
        · rename_i ff kk nn ee pe hlbe
          exact fin _ _ _ _ _ pe hlbe (fun rr hrr => ⟨by rw [hrr.1]; simp, hrr.2⟩) hK
    have hgx := hs.ev gx
    split at h <;> first | (cases h; done) | skip
    all_goals (rename_i he; rw [he] at hgx)
    · simp only [PVR, SVR, VRr] at hgx
      obtain ⟨cs, e1, e2⟩ := hgx
      exact go _ cs _ e1 (fun gl => capRo_rel e2 _) h
    · obtain ⟨cs, e1, e2, e3⟩ := hgx
      refine go _ cs _ e1 (fun gl => ?_) h
      exact capTo_rel e2 (fun i v u a b => (e3 i v u a b).mono (Mem.le_refl m) hle1) gl
  | .scope _, hl, hr, E, K, m, g, st, a, w, hs, h | .label _, hl, hr, E, K, m, g, st, a, w, hs, h | .goto _, hl, hr, E, K, m, g, st, a, w, hs, h | .refuse _, hl, hr, E, K, m, g, st, a, w, hs, h => by simp [pmCode] at h

end Go.PM

set_option linter.unusedSectionVars false
namespace Go.PM
variable [LoopCodes]
variable {R : Type} {P : Program}

/-- What is known of a function from elsewhere. -/
def ExtOK (P : Program) (ext : FuncId → Option (List PV → Option RV)) : Prop :=
  ∀ f F, ext f = some F → ∀ args r, F args = some r → Enters P f ∧ ∀ (m : Mem) (g : Gh) (w : World) (cs : List Value), (∀ b o c, m b o = some c → w.cell? ⟨b, o, none⟩ = some c) → (∀ gl, PVsR m (gl :: g) args cs) →
    Calls P f cs.toArray w fun e w' => ∃ c m', e = .returned c ∧ Popped m [] [] w m' [] [] w' ∧ VRr m' r c

theorem PVsR.replicate (m : Mem) (g : Gh) (n : Nat) : PVsR m g (List.replicate n skipP) (List.replicate n undef) := by
  induction n with
  | zero => exact PVsR.nil m g
  | succ n ih => rw [List.replicate_succ, List.replicate_succ]; exact PVsR.cons (pv_skip m g) ih

/-! ### a mark is come to -/
theorem FRel.collect {E : Entry} {m : Mem} {g : Gh} {fr : Frames} {w : World} (h : FRel E m g fr w) {b : Nat} (hb : (b, Obj.deferred (some [])) ∈ E.keep) (hn : E.w.heap.size ≤ b) :
    FRel { E with keep := E.keep.filter fun x => x.1 != b } m g fr (w.putObj b (.deferred none)) := by
  obtain ⟨hb1, hb2⟩ := h.kp _ _ hb
  have hoth : ∀ k, k ≠ b → (w.putObj b (.deferred none)).heap[k]? = w.heap[k]? := fun k hk => World.putObj_heap_other hk
  have hcell : ∀ b' o c, m b' o = some c → b' ≠ b := fun b' o c hc e => by
    subst e
    have := h.p.mem _ _ _ hc
    unfold World.cell? at this
    rw [hb1] at this
    simp at this
  refine ⟨⟨fun b' o c hc => (World.cell?_of_block (w := w) (hoth b' (hcell b' o c hc))).trans (h.p.mem b' o c hc), h.p.len, fun d k lb h0 => ?_, h.p.excl, h.p.dis, h.p.ghost⟩,
    ⟨h.step.le, h.step.new, h.step.os, h.step.tape, h.step.output, by simpa using h.step.size, fun k hk hne => (hoth k (by have hk' : k < E.w.heap.size := hk; omega)).trans (h.step.block k hk hne)⟩, h.gt, h.shape, h.old, fun b' o hk => ?_⟩
  · obtain ⟨l, g0, hr⟩ := h.p.blk d k lb h0
    exact ⟨l, g0, hr.kept (Mem.le_refl m) (Gh.le_refl _) rfl fun b' hb' => hoth b' fun e => by subst e; exact hb2 d k lb l h0 g0 hb'⟩
  · obtain ⟨h1, h2⟩ := List.mem_filter.1 hk
    obtain ⟨h3, h4⟩ := h.kp b' o h1
    exact ⟨(hoth b' (by simpa using h2)).trans h3, h4⟩

theorem leaves_of {fn : Func} {F : Fence} {n : Nat} {R' : Ending → World → Prop} {st : St} {a : Act} : ∀ (bs : List Nat) (E : Entry) (m : Mem) (g : Gh) (w : World), FRel E m g st.fr w → bs.Nodup → (∀ b ∈ bs, (b, Obj.deferred (some [])) ∈ E.keep ∧ E.w.heap.size ≤ b) →
    (∀ (kp : List (Nat × Obj)) (w : World), FRel { E with keep := kp } m g st.fr w → ∃ v, (results fn a.tmps).run P w = .ok v w ∧ R' (.returned v) w) → LeavesInM F n P fn a.tmps R' (bs.map mark) .returning w
  | [], E, m, g, w, hf, _, _, hfin => hfin E.keep w hf
  | b :: bs, E, m, g, w, hf, hnd, hk, hfin => by
    obtain ⟨hb, hn⟩ := hk b (List.mem_cons_self ..)
    obtain ⟨h1, h2⟩ := List.nodup_cons.1 hnd
    refine ⟨by simp, .inl ⟨b, _, rfl, run_takeDeferred (hf.kp _ _ hb).1, ?_⟩⟩
    exact leaves_of bs _ m g _ (hf.collect hb hn) h2 (fun b' hb' => ⟨List.mem_filter.2 ⟨(hk b' (List.mem_cons_of_mem _ hb')).1, by simp; intro e; subst e; exact h1 hb'⟩, (hk b' (List.mem_cons_of_mem _ hb')).2⟩) fun kp w hf' => hfin kp w hf'

/-! ### a round -/
theorem PV.shift_rel {m : Mem} {g : Gh} {d : Nat} {v : PV} {u : Value} (h : PVR m (g.drop d) v u) : PVR m g (v.shift d) u := by
  cases v with
  | s v => exact SV.shift_rel h
  | agg cs =>
    obtain ⟨us, e, h1, h2, h3⟩ := h
    refine ⟨us, e, by simpa using h1, h2, fun i s u a b => ?_⟩
    rw [List.getElem?_map] at a
    cases hs : cs[i]? with
    | none => simp [hs] at a
    | some s0 =>
      simp [hs] at a
      subst a
      exact SV.shift_rel (h3 i s0 u hs b)

def TmpsR (m : Mem) (g : Gh) (l : List PV) (L : Array Value) : Prop := ∀ (i : Nat) (v : PV) (c : Value), l[i]? = some v → L[i]? = some c → PVR m g v c

theorem setTs_length : ∀ (ps : List (Nat × PV)) (l : List PV), (setTs l ps).length = l.length
  | [], l => rfl
  | (t, v) :: r, l => by simp only [setTs]; rw [setTs_length r]; simp

theorem setTs_env {m : Mem} {g : Gh} {L : Array Value} : ∀ {ps : List (Nat × PV)} {l : List PV}, TmpsR m g l L → (∀ t v, (t, v) ∈ ps → ∃ u, L[t]? = some u ∧ PVR m g v u) → TmpsR m g (setTs l ps) L
  | [], l, h, _ => h
  | (t, v) :: r, l, h, hp => by
    simp only [setTs]
    refine setTs_env (fun i u c a b => ?_) fun t' v' h' => hp t' v' (List.mem_cons_of_mem _ h')
    rw [List.getElem?_set] at a
    by_cases e : t = i
    · subst e
      simp only [if_true] at a
      split at a <;> cases a
      obtain ⟨u', h1, h2⟩ := hp t v (List.mem_cons_self ..)
      rw [b] at h1; cases h1
      exact h2
    · simp only [e, if_false] at a
      exact h i u c a b

theorem setTs_args {m : Mem} {g : Gh} : ∀ {ps : List Tmp} {args : List PV} {cs : List Value} {l : List PV} {L : Array Value}, PVsR m g args cs → args.length = ps.length → TmpsR m g l L → l.length = L.size →
    TmpsR m g (setTs l (ps.zip args)) ((ps.zip cs).foldl (fun tmps x => tmps.setIfInBounds x.1 x.2) L) ∧ (setTs l (ps.zip args)).length = ((ps.zip cs).foldl (fun tmps x => tmps.setIfInBounds x.1 x.2) L).size
  | [], [], cs, l, L, hc, _, h, hl => by
    have : cs = [] := List.eq_nil_of_length_eq_zero (by simpa using hc.1)
    subst this; exact ⟨h, hl⟩
  | p :: ps, v :: args, cs, l, L, hc, hlen, h, hl => by
    obtain ⟨c, cs', rfl, h1, h2⟩ := hc.uncons
    simp only [List.zip_cons_cons, setTs, List.foldl_cons]
    refine setTs_args h2 (by simpa using hlen) (fun i u c' a b => ?_) (by simpa using hl)
    rw [List.getElem?_set] at a
    rw [Array.getElem?_setIfInBounds] at b
    by_cases e : p = i
    · subst e
      simp only [if_true] at a b
      split at a <;> cases a
      split at b <;> cases b
      exact h1
    · simp only [e, if_false] at a b
      exact h i u c' a b
  | [], _ :: _, cs, l, L, hc, hlen, h, hl => by simp at hlen
  | _ :: _, [], cs, l, L, hc, hlen, h, hl => by simp at hlen

theorem pmYield_ok {hh : Hint} (hE : EqOK P hh) {call : CallF R} (hC : CallOK P call) (hD : ∀ f, DrawSound P hh f call) (hLC : ∀ f k, LoopCodes.at_ f k = loopAt P f k) : YldOK P (pmYield P hh call) := fun d k args fr K r h m g w cs hp hargs l hl => by
  unfold pmYield at h
  split at h <;> first | (cases h; done) | skip
  rename_i f key n env hlb
  split at h <;> first | (cases h; done) | skip
  rename_i lc hloop
  split at h <;> first | (cases h; done) | skip
  rename_i hcond
  simp only [Bool.and_eq_true, beq_iff_eq, List.isEmpty_iff] at hcond
  obtain ⟨⟨hlen, hra⟩, hrb⟩ := hcond
  obtain ⟨hlb0, l1, hl1, hr1⟩ := lbAt_blk hp hlb (by simp)
  rw [hl] at hl1; cases hl1
  obtain ⟨n1, n2, rec, lc', hh0, hat, hps, has, hbo, hls, hsz, henv⟩ := hr1
  rw [hLC, hloop] at hat; cases hat
  have hcl : cs.length = args.length := by simpa using (hargs []).1
  have hsize : cs.toArray.size = rec.params.size := by
    have e1 : rec.params.size = rec.params.toList.length := by simp
    rw [e1, hps, List.size_toArray, hcl, hlen]
  refine ⟨rec.fn, _, rec.assign, rec.body, run_yield hh0 hsize, ?_⟩
  refine roundIn_of_wpIn (F := Fence.wide) trivial ?_
  have hent := FRel.enter hp
  -- the round's variables
  have hbase : TmpsR m ([] :: g) (setTs (List.replicate n undefP) (env.map fun x => (x.1, x.2.shift (d + 1)))) rec.tmps := by
    refine setTs_env (fun i v c a b => ?_) fun t v hm => ?_
    · rw [List.getElem?_replicate] at a
      split at a <;> cases a
      trivial
    · obtain ⟨x, hx, e⟩ := List.mem_map.1 hm
      cases e
      obtain ⟨u, h1, h2⟩ := henv x.1 x.2 hx
      exact ⟨u, h1, PV.shift_rel (by simpa using h2)⟩
  have hbl : (setTs (List.replicate n undefP) (env.map fun x => (x.1, x.2.shift (d + 1)))).length = rec.tmps.size := by rw [setTs_length]; simp [hsz]
  obtain ⟨ht1, ht2⟩ := setTs_args (hargs []) hlen hbase hbl
  have hfold : (rec.params.zip cs.toArray).foldl (fun tmps (x : Tmp × Value) => tmps.setIfInBounds x.1 x.2) rec.tmps = (lc.ps.zip cs).foldl (fun tmps x => tmps.setIfInBounds x.1 x.2) rec.tmps := by
    rw [← Array.foldl_toList, Array.toList_zip, hps]
  have hs : SRel ⟨m, g, fr, w, []⟩ m ([] :: g) ⟨setTs (setTs (List.replicate n undefP) (env.map fun x => (x.1, x.2.shift (d + 1)))) (lc.ps.zip args), [] :: fr⟩ { tmps := (rec.params.zip cs.toArray).foldl (fun tmps (x : Tmp × Value) => tmps.setIfInBounds x.1 x.2) rec.tmps, defers := [] } w := by
    rw [hfold]
    exact ⟨hent, ht2, ht1, [], rfl, List.nodup_nil, fun b hb => by cases hb⟩
  -- the loop's block, wherever one looks
  have look : ∀ {kp : List (Nat × Obj)} {m1 : Mem} {g1 : Gh} {st1 : St} {a1 : Act} {w1 : World}, SRel (Entry.keeps ⟨m, g, fr, w, []⟩ kp) m1 g1 st1 a1 w1 → ∀ {f1 k1 n1 e1 s1}, lbAt st1.fr (d + 1) k = .loop f1 k1 n1 e1 s1 →
      ∃ l1 r1, lbAt? st1.fr (d + 1) k = some (.loop f1 k1 n1 e1 s1) ∧ gAt g1 (d + 1) k = some l1 ∧ l1.b = l.b ∧ w1.heap[l.b]? = some (.loop r1) ∧ LSR s1 r1 ∧
        ∀ s2 r2, r2.params = r1.params → r2.assign = r1.assign → r2.body = r1.body → r2.tmps = r1.tmps → LSR s2 r2 → FRel (Entry.keeps ⟨m, g, fr, w, []⟩ kp) m1 g1 (setAt st1.fr (d + 1) k (.loop f1 k1 n1 e1 s2)) (w1.putObj l.b (.loop r2)) := fun {kp m1 g1 st1 a1 w1} hs1 {f1 k1 n1 e1 s1} hx => by
    obtain ⟨q0, l1, ql, qr⟩ := lbAt_blk hs1.f.p hx (by simp)
    obtain ⟨gl, gu, rfl, hgu⟩ := hs1.f.gt
    rw [gAt_cons_succ] at ql
    obtain ⟨l2, p1, p2⟩ := hgu d k l hl
    rw [p1] at ql; cases ql
    obtain ⟨x1, x2, r1, lc1, x3, x4, x5, x6, x7, x8, x9, x10⟩ := qr
    have hlb1 : l1.b = l.b := p2.b
    rw [hlb1] at x3
    refine ⟨l1, r1, q0, by rw [gAt_cons_succ]; exact p1, hlb1, x3, x8, fun s2 r2 y1 y2 y3 y4 y5 => ?_⟩
    have hlt := (Array.getElem?_eq_some_iff.1 x3).1
    refine hs1.f.write (w' := w1.putObj l.b (.loop r2)) q0 (by rw [gAt_cons_succ]; exact p1) rfl (.inl rfl) (by simp) (by simp) (by simp) rfl rfl rfl (by simp) (fun b hb => World.putObj_heap_other (by rw [← hlb1]; exact hb)) ?_
    exact ⟨x1, x2, r2, lc1, by rw [hlb1]; exact World.putObj_heap_same hlt, x4, by rw [y1]; exact x5, y2.trans x6, y3.trans x7, y5, by rw [y4]; exact x9, fun t v htv => by rw [y4]; exact x10 t v htv⟩
  have hA := pmCode_wp (ro := some l.b) (n := 0) hE hC (hD f) lc.assign (by rw [hra]; intro x hx; cases hx) (.inr hra) _ _ m ([] :: g) _ _ w hs h
  rw [has]
  refine wpIn_mono (F := FF (some l.b)) hA ?_
  rintro e a1 w1 ⟨pe, m1, g1, st1, kp, rfl, hK1, hs1⟩
  cases pe with
  | exit id => cases hK1
  | ret => cases hK1
  | normal =>
    simp only at hK1
    split at hK1 <;> first | (cases hK1; done) | skip
    rename_i f1 k1 n1' e1 hlb1
    obtain ⟨l1, r1, q1, q2, q3, q4, q5, q6⟩ := look hs1 hlb1
    refine ⟨_, run_beginRound q4 q5.1, ?_⟩
    have hf2 := q6 .busy { r1 with state := .busy } rfl rfl rfl rfl ⟨rfl, q5.2⟩
    have hs2 : SRel (Entry.keeps ⟨m, g, fr, w, []⟩ kp) m1 g1 ⟨st1.tmps, setAt st1.fr (d + 1) k (.loop f1 k1 n1' e1 .busy)⟩ a1 (w1.putObj l.b (.loop { r1 with state := .busy })) := ⟨hf2, hs1.len, hs1.tmps, hs1.dfr⟩
    have hB := pmCode_wp (ro := some l.b) (n := 0) hE hC (hD f) lc.body (by rw [hrb]; intro x hx; cases hx) (.inr hrb) _ _ m1 g1 _ _ _ hs2 hK1
    rw [hbo]
    refine wpIn_mono (F := FF (some l.b)) hB ?_
    rintro e2 a2 w2 ⟨pe2, m2, g2, st2, kp2, rfl, hK2, hs3⟩
    rw [Entry.keeps_keeps] at hs3
    simp only at hK2
    split at hK2 <;> first | (cases hK2; done) | skip
    rename_i f2 k2 n2' e2' hlb2
    obtain ⟨l2, r2, p1, p2, p3, p4, p5, p6⟩ := look hs3 hlb2
    have fin : ∀ (pe : PExit) (b : Bool) (jump : Option Code), pe.code = jump → jump.isNone = b → K (.ro (.bool b)) (setAt st2.fr (d + 1) k (.loop f2 k2 n2' e2' (if b then .ready else .done pe))).tail = some r →
        ∃ v w', (Instr.endRound l.b jump).run P w2 = .ok v w' ∧ ∃ c m' g' v' fr', (Ending.returned v) = .returned c ∧ K v' fr' = some r ∧ Popped m g fr w m' g' fr' w' ∧ PVR m' g' v' c := fun pe b jump hj hb hK3 => by
      have hf4 := p6 (if b then .ready else .done pe) { r2 with state := if jump.isNone then .ready else .done, pending := jump } rfl rfl rfl rfl (by
          cases b with
          | true =>
            have : jump = none := by cases jump <;> simp_all
            subst this
            exact ⟨rfl, rfl⟩
          | false =>
            rw [hb]
            exact ⟨rfl, hj.symm⟩)
      have hpop := hf4.leave none
      refine ⟨_, _, run_endRound jump p4, .bool jump.isNone, _, _, _, _, rfl, hK3, hpop, ?_⟩
      rw [hb]
      simp [PVR, SVR, VRr]
    cases pe2 with
    | normal =>
      obtain ⟨v, w', h1, h2⟩ := fin .normal true none rfl rfl hK2
      exact ⟨v, w', h1, h2⟩
    | exit id =>
      obtain ⟨v, w', h1, h2⟩ := fin (.exit id) false (some (.exit id)) rfl rfl hK2
      exact ⟨v, w', h1, h2⟩
    | ret =>
      obtain ⟨v, w', h1, h2⟩ := fin .ret false (some .ret) rfl rfl hK2
      exact ⟨v, w', h1, h2⟩

theorem lookL_of {x : Nat × LoopCode} : ∀ {l : List (Nat × LoopCode)}, keysOK l = true → x ∈ l → lookL x.1 l = some x.2
  | [], _, h => by cases h
  | (k, c) :: r, hk, h => by
    simp only [keysOK, Bool.and_eq_true] at hk
    simp only [lookL]
    rcases List.mem_cons.1 h with e | h
    · subst e; simp
    · have := List.all_eq_true.1 hk.1 x h
      have hne : Nat.beq k x.1 = false := by simpa using this
      rw [hne]
      exact lookL_of hk.2 h

theorem pmCalls_ok {hh : Hint} (hE : EqOK P hh) (hN : ∀ (g : FuncId) (fn : Func), P.funcs[g]? = some fn → (fn.name == "runtime.NumGoroutine") = false) {ext : FuncId → Option (List PV → Option RV)} (hX : ExtOK P ext) (hLC : ∀ f k, LoopCodes.at_ f k = loopAt P f k)
    (hD : ∀ n f, CallOK P (pmCalls (R := R) P hh ext n) → DrawSound P hh f (pmCalls (R := R) P hh ext n)) : ∀ n, CallOK P (pmCalls (R := R) P hh ext n)
  | 0 => ⟨fun f args fr K r h => by simp [pmCalls] at h, fun d k args fr K r h => by simp [pmCalls] at h⟩
  | n + 1 => by
    have ih := pmCalls_ok hE hN hX hLC hD n
    refine ⟨fun f args fr K r h => ?_, pmYield_ok hE ih (fun f => hD n f ih) hLC⟩
    simp only [pmCalls] at h
    split at h
    · rename_i F hF
      split at h <;> first | (cases h; done) | skip
      rename_i rv hrv
      obtain ⟨h1, h2⟩ := hX f F hF args rv hrv
      refine ⟨h1, fun m g w cs hp hc => (h2 m g w cs hp.mem hc).mono ?_⟩
      rintro e w' ⟨c, m', rfl, hpop, hv⟩
      exact ⟨c, m', _, _, _, _, rfl, h, hpop.lift hp, hv⟩
    · split at h <;> first | (cases h; done) | skip
      rename_i fn hfn
      split at h <;> first | (cases h; done) | skip
      rename_i c hbody
      split at h <;> first | (cases h; done) | skip
      rename_i hkeys
      have hlc : ∀ x ∈ ranges c, LoopCodes.at_ f x.1 = some x.2 := fun x hx => by
        rw [hLC]
        simp only [loopAt, hfn, hbody]
        exact lookL_of hkeys hx
      refine ⟨⟨fn, hfn, by simp [hbody], hN f fn hfn⟩, fun m g w cs hp hc => callsIn_wide.1 (callsIn_of_wp_marks (F := Fence.wide) (n := 0) hfn hbody trivial ?_)⟩
      have hent := FRel.enter hp
      have hlen := (hc []).1
      have htm := (hc []).append (PVsR.replicate m ([] :: g) (fn.ntmps - args.length))
      have hsz : cs.toArray.size = args.length := by simpa using hlen
      have hs : SRel ⟨m, g, fr, w, []⟩ m ([] :: g) ⟨args ++ List.replicate (fn.ntmps - args.length) skipP, [] :: fr⟩ { tmps := cs.toArray ++ Array.replicate (fn.ntmps - cs.toArray.size) undef, defers := [] } w :=
        ⟨hent, by simp [hsz], fun i v u a b => htm.2 i v u a (by
          rw [hsz] at b
          have e : (cs.toArray ++ Array.replicate (fn.ntmps - args.length) undef) = (cs ++ List.replicate (fn.ntmps - args.length) undef).toArray := by apply Array.ext'; simp
          simp only [e] at b
          simpa using b), [], rfl, List.nodup_nil, fun b hb => by cases hb⟩
      refine wpIn_mono (F := FF none) (pmCode_wp (ro := none) (n := 0) hE ih (hD n f ih) c hlc (.inl rfl) _ _ m ([] :: g) _ _ w hs h) ?_
      rintro e a' w' ⟨pe, m', g', st', kp, rfl, hK, hs'⟩
      have fin : retK P (hh.move f) fn st' K = some r → LeavesInM Fence.wide 0 P fn a'.tmps (fun e w' => ∃ c m' g' v mv fr', e = .returned c ∧ K v mv fr' = some r ∧ Popped m g fr w m' g' fr' w' ∧ RetR m' g' fr' w w' v mv c) a'.defers .returning w' := fun h => by
        obtain ⟨v, lb, fr', q1, q2⟩ := retK_some h
        obtain ⟨bs, e1, e2, e3⟩ := hs'.dfr
        rw [e1]
        refine leaves_of bs _ m' g' w' hs'.f e2 e3 fun kp' w2 hf2 => ?_
        have hs2 : SRel { (Entry.keeps ⟨m, g, fr, w, []⟩ kp) with keep := kp' } m' g' st' { a' with defers := [] } w2 := ⟨hf2, hs'.len, hs'.tmps, [], rfl, List.nodup_nil, fun b hb => by cases hb⟩
        obtain ⟨c, m'', g'', f1, f2, f3⟩ := q2 _ m' g' _ w2 hs2
        exact ⟨c, f1, c, m'', g'', v, lb, fr', rfl, q1, f2, f3⟩
      cases pe with
      | normal => exact fin hK
      | ret => exact fin hK
      | exit id => cases hK

end Go.PM

set_option linter.unusedSectionVars false
namespace Go.PM
variable [LoopCodes]
variable {R : Type} {P : Program}

/-! ### primitives without frames -/
theorem wInt_det {v : PV} {K : IntKind → Int → Option R} {r : R} (h : wInt v K = some r) : ∃ k n, K k n = some r ∧ ∀ (K' : IntKind → Int → Option R) r', K' k n = some r' → wInt v K' = some r' := by
  unfold wInt at h
  split at h
  · exact ⟨_, _, h, fun K' r' hk => hk⟩
  · cases h
theorem wBool_det {v : PV} {K : Bool → Option R} {r : R} (h : wBool v K = some r) : ∃ b, K b = some r ∧ ∀ (K' : Bool → Option R) r', K' b = some r' → wBool v K' = some r' := by
  unfold wBool at h
  split at h
  · exact ⟨_, h, fun K' r' hk => hk⟩
  · cases h
theorem sealAll_det : ∀ {cs : List SV} {K : List RV → Option R} {r : R}, sealAll cs K = some r → ∃ vs, K vs = some r ∧ ∀ (K' : List RV → Option R) r', K' vs = some r' → sealAll cs K' = some r'
  | [], K, r, h => ⟨[], h, fun K' r' hk => hk⟩
  | .ro v :: cs, K, r, h => by
    simp only [sealAll] at h
    obtain ⟨vs, h1, h2⟩ := sealAll_det h
    exact ⟨_, h1, fun K' r' hk => h2 _ r' hk⟩
  | .tsl sz rows d k :: cs, K, r, h => by
    simp only [sealAll] at h
    obtain ⟨vs, h1, h2⟩ := sealAll_det h
    exact ⟨_, h1, fun K' r' hk => h2 _ r' hk⟩
  | .ptr .. :: _, _, _, h | .sl .. :: _, _, _, h | .mp .. :: _, _, _, h | .it .. :: _, _, _, h | .fn .. :: _, _, _, h | .yld .. :: _, _, _, h | .undef :: _, _, _, h => by simp [sealAll] at h
theorem wRo_det {v : PV} {K : RV → Option R} {r : R} (h : wRo v K = some r) : ∃ x, K x = some r ∧ ∀ (K' : RV → Option R) r', K' x = some r' → wRo v K' = some r' := by
  unfold wRo at h
  split at h
  · exact ⟨_, h, fun K' r' hk => hk⟩
  · exact ⟨_, h, fun K' r' hk => hk⟩
  · obtain ⟨vs, h1, h2⟩ := sealAll_det h
    exact ⟨_, h1, fun K' r' hk => h2 _ r' hk⟩
  · cases h
theorem mkAgg_det {cs : List SV} {K : PV → Option R} {r : R} (h : mkAgg cs K = some r) : ∃ v, K v = some r ∧ ∀ (K' : PV → Option R) r', K' v = some r' → mkAgg cs K' = some r' := by
  unfold mkAgg at h
  split at h
  · rename_i vs hv; exact ⟨_, h, fun K' r' hk => by simp only [mkAgg, hv]; exact hk⟩
  · rename_i hv; exact ⟨_, h, fun K' r' hk => by simp only [mkAgg, hv]; exact hk⟩
theorem zeroT_det {t : TypeId} {K : List RV → Option R} {r : R} (h : zeroT P t K = some r) : ∃ z, K z = some r ∧ ∀ (K' : List RV → Option R) r', K' z = some r' → zeroT P t K' = some r' := by
  unfold zeroT at h
  split at h <;> first | (cases h; done) | skip
  rename_i i hi
  split at h <;> first | (cases h; done) | skip
  · rename_i cs hz
    split at h <;> first | (cases h; done) | skip
    rename_i hc
    exact ⟨_, h, fun K' r' hk => by simp only [zeroT, hi, hz, hc]; exact hk⟩
  · rename_i v hn hz
    split at h <;> first | (cases h; done) | skip
    rename_i hc
    refine ⟨_, h, fun K' r' hk => ?_⟩
    cases v with
    | agg cs => exact absurd rfl (hn cs)
    | _ => simp only [zeroT, hi, hz, hc]; exact hk
theorem fillK_det {t : TypeId} : ∀ {ps : List (Nat × PV)} {cells : List SV} {K : List SV → Option R} {r : R}, fillK P t cells ps K = some r → ∃ out, K out = some r ∧ ∀ (K' : List SV → Option R) r', K' out = some r' → fillK P t cells ps K' = some r'
  | [], cells, K, r, h => ⟨cells, h, fun K' r' hk => hk⟩
  | (i, v) :: ps, cells, K, r, h => by
    simp only [fillK] at h
    split at h <;> first | (cases h; done) | skip
    rename_i off size ho
    split at h <;> first | (cases h; done) | skip
    rename_i hc
    obtain ⟨out, h1, h2⟩ := fillK_det h
    exact ⟨out, h1, fun K' r' hk => by simp only [fillK, ho, hc]; exact h2 K' r' hk⟩
theorem unshift_det {d : Nat} {v : SV} {K : SV → Option R} {r : R} (h : unshift d v K = some r) : ∃ x, K x = some r ∧ ∀ (K' : SV → Option R) r', K' x = some r' → unshift d v K' = some r' := by
  unfold unshift at h
  split at h <;> first | (cases h; done) | skip
  · exact ⟨_, h, fun K' r' hk => hk⟩
  · split at h <;> first | (cases h; done) | skip
    rename_i hc
    exact ⟨_, h, fun K' r' hk => by simp only [unshift, hc]; exact hk⟩
  · split at h <;> first | (cases h; done) | skip
    rename_i hc
    exact ⟨_, h, fun K' r' hk => by simp only [unshift, hc]; exact hk⟩
  · split at h <;> first | (cases h; done) | skip
    rename_i hc
    exact ⟨_, h, fun K' r' hk => by simp only [unshift, hc]; exact hk⟩
  all_goals
    split at h <;> first | (cases h; done) | skip
    exact ⟨_, h, fun K' r' hk => hk⟩
theorem unshiftAll_det {d : Nat} : ∀ {vs : List SV} {K : List SV → Option R} {r : R}, unshiftAll d vs K = some r → ∃ x, K x = some r ∧ ∀ (K' : List SV → Option R) r', K' x = some r' → unshiftAll d vs K' = some r'
  | [], K, r, h => ⟨[], h, fun K' r' hk => hk⟩
  | v :: vs, K, r, h => by
    simp only [unshiftAll] at h
    obtain ⟨x, h1, h2⟩ := unshift_det h
    obtain ⟨xs, h3, h4⟩ := unshiftAll_det h1
    exact ⟨_, h3, fun K' r' hk => h2 _ r' (h4 (fun r' => K' (x :: r')) r' hk)⟩
theorem loadRow_det {agg : Bool} {n : Nat} {row : List RV} {o : Nat} {K : PV → Option R} {r : R} (h : loadRow agg n row o K = some r) : ∃ v, K v = some r ∧ ∀ (K' : PV → Option R) r', K' v = some r' → loadRow agg n row o K' = some r' := by
  unfold loadRow at h
  split at h
  · split at h <;> first | (cases h; done) | skip
    rename_i v hv
    exact ⟨_, h, fun K' r' hk => by simp only [loadRow, hv]; exact hk⟩
  · split at h <;> first | (cases h; done) | skip
    rename_i hv
    exact ⟨_, h, fun K' r' hk => by simp only [loadRow, hv]; exact hk⟩
theorem loadBox_det {agg : Bool} {n d : Nat} {row : List SV} {o : Nat} {K : PV → Option R} {r : R} (h : loadBox agg n d row o K = some r) : ∃ v, K v = some r ∧ ∀ (K' : PV → Option R) r', K' v = some r' → loadBox agg n d row o K' = some r' := by
  unfold loadBox at h
  split at h
  · split at h <;> first | (cases h; done) | skip
    rename_i v hv
    exact ⟨_, h, fun K' r' hk => by simp only [loadBox, hv]; exact hk⟩
  · split at h <;> first | (cases h; done) | skip
    rename_i hv
    obtain ⟨x, h1, h2⟩ := mkAgg_det h
    exact ⟨_, h1, fun K' r' hk => by simp only [loadBox, hv]; exact h2 K' r' hk⟩

theorem minL_det {lt : Int → Int → Bool} : ∀ {args : List PV} {a : Int} {k : IntKind} {K : IntKind → Int → Option R} {r : R}, minL lt a args K k = some r → ∃ n, K k n = some r ∧ ∀ (K' : IntKind → Int → Option R) r', K' k n = some r' → minL lt a args K' k = some r'
  | [], a, k, K, r, h => ⟨a, h, fun K' r' hk => hk⟩
  | v :: args, a, k, K, r, h => by
    simp only [minL] at h
    split at h <;> first | (cases h; done) | skip
    split at h
    · rename_i hl
      obtain ⟨n, h1, h2⟩ := minL_det h
      exact ⟨n, h1, fun K' r' hk => by simp only [minL, hl]; exact h2 K' r' hk⟩
    · rename_i hl
      obtain ⟨n, h1, h2⟩ := minL_det h
      exact ⟨n, h1, fun K' r' hk => by simp only [minL, hl]; exact h2 K' r' hk⟩
theorem minK_det {lt : Int → Int → Bool} {args : List PV} {K : PV → Option R} {r : R} (h : minK lt args K = some r) : ∃ v, K v = some r ∧ ∀ (K' : PV → Option R) r', K' v = some r' → minK lt args K' = some r' := by
  unfold minK at h
  split at h <;> first | (cases h; done) | skip
  obtain ⟨n, h1, h2⟩ := minL_det h
  exact ⟨_, h1, fun K' r' hk => h2 _ r' hk⟩
theorem unOpK_det {op : UnOp} {x : PV} {K : PV → Option R} {r : R} (h : unOpK op x K = some r) : ∃ v, K v = some r ∧ ∀ (K' : PV → Option R) r', K' v = some r' → unOpK op x K' = some r' := by
  unfold unOpK at h
  split at h <;> first | (cases h; done) | skip
  all_goals exact ⟨_, h, fun K' r' hk => hk⟩
theorem convertK_det {src dst : TypeId} {x : PV} {K : PV → Option R} {r : R} (h : convertK P src dst x K = some r) : ∃ v, K v = some r ∧ ∀ (K' : PV → Option R) r', K' v = some r' → convertK P src dst x K' = some r' := by
  unfold convertK at h
  split at h <;> first | (cases h; done) | skip
  rename_i h1 h2
  exact ⟨_, h, fun K' r' hk => by simp only [convertK, h1, h2]; exact hk⟩
theorem eqK_det {hh : Hint} {t : TypeId} {x y : PV} {K : Bool → Option R} {r : R} (h : eqK P hh t x y K = some r) : ∃ b, K b = some r ∧ ∀ (K' : Bool → Option R) r', K' b = some r' → eqK P hh t x y K' = some r' := by
  unfold eqK at h
  split at h <;> first | (cases h; done) | skip
  · rename_i hd
    exact ⟨_, h, fun K' r' hk => by simp only [eqK, hd]; exact hk⟩
  all_goals
    rename_i hd
    split at h <;> first | (cases h; done) | skip
    first
      | (rename_i he
         split at h <;> first | (cases h; done) | skip
         rename_i c hc
         exact ⟨_, h, fun K' r' hk => by simp only [eqK, hd, he, hc]; exact hk⟩)
      | (rename_i b hb
         exact ⟨_, h, fun K' r' hk => by simp only [eqK, hd, hb]; exact hk⟩)
theorem binOpK_det {hh : Hint} {op : BinOp} {t : TypeId} {x y : PV} {K : PV → Option R} {r : R} (h : binOpK P hh op t x y K = some r) : ∃ v, K v = some r ∧ ∀ (K' : PV → Option R) r', K' v = some r' → binOpK P hh op t x y K' = some r' := by
  unfold binOpK at h
  split at h
  · split at h <;> first | (cases h; done) | skip
    split at h
    · split at h <;> first | (cases h; done) | skip
      rename_i hc
      exact ⟨_, h, fun K' r' hk => by simp only [binOpK, hc]; exact hk⟩
    · split at h <;> first | (cases h; done) | skip
      rename_i hc
      exact ⟨_, h, fun K' r' hk => by simp only [binOpK, hc]; exact hk⟩
    · split at h <;> first | (cases h; done) | skip
      rename_i hc
      split at h <;> first | (cases h; done) | skip
      all_goals first
        | exact ⟨_, h, fun K' r' hk => by simp only [binOpK, hc]; exact hk⟩
        | (split at h <;> first | (cases h; done) | skip
           rename_i hb
           exact ⟨_, h, fun K' r' hk => by simp only [binOpK, hc, hb]; exact hk⟩)
  · split at h <;> first | (cases h; done) | skip
    split at h <;> first | (cases h; done) | skip
    · exact ⟨_, h, fun K' r' hk => hk⟩
    · exact ⟨_, h, fun K' r' hk => hk⟩
    · split at h <;> first | (cases h; done) | skip
      rename_i hc
      exact ⟨_, h, fun K' r' hk => by simp only [binOpK, hc]; exact hk⟩
  · rename_i hx1 hx2
    split at h <;> first | (cases h; done) | skip
    · obtain ⟨b, h1, h2⟩ := eqK_det h
      refine ⟨_, h1, fun K' r' hk => ?_⟩
      unfold binOpK
      split
      · exact absurd rfl (hx1 _ _)
      · exact absurd rfl (hx2 _)
      · exact h2 (fun b => K' (.ro (.bool b))) r' hk
    · obtain ⟨b, h1, h2⟩ := eqK_det h
      refine ⟨_, h1, fun K' r' hk => ?_⟩
      unfold binOpK
      split
      · exact absurd rfl (hx1 _ _)
      · exact absurd rfl (hx2 _)
      · exact h2 (fun b => K' (.ro (.bool (!b)))) r' hk

end Go.PM

set_option linter.unusedSectionVars false
namespace Go.PM
variable [LoopCodes]
variable {R : Type} {P : Program}

def refs : PV → Option (Nat × Nat)
  | .s (.ptr d k _ _) => some (d, k)
  | .s (.sl d k _ _) => some (d, k)
  | .s (.mp d k) => some (d, k)
  | _ => none
/-- What x points to is the same here and there. -/
def Rd (x : PV) (fr fr' : Frames) : Prop := ∀ d k, refs x = some (d, k) → lbAt fr d k ≠ .none → (∀ sz n, lbAt fr d k ≠ .tok sz n) → lbAt fr' d k = lbAt fr d k
theorem Rd.at {x : PV} {fr fr' : Frames} (h : Rd x fr fr') {d k : Nat} (hr : refs x = some (d, k)) {lb : LB} (hlb : lbAt fr d k = lb) (hn : lb ≠ .none := by simp) (ht : ∀ sz n, lb ≠ .tok sz n := by simp) : lbAt fr' d k = lb := by
  rw [h d k hr (by rw [hlb]; exact hn) (fun sz n => by rw [hlb]; exact ht sz n), hlb]

theorem loadK_loc {fr : Frames} {t : TypeId} {x : PV} {K : PV → Option R} {r : R} (h : loadK P fr t x K = some r) : ∃ v, K v = some r ∧ ∀ fr', Rd x fr fr' → ∀ (K' : PV → Option R) r', K' v = some r' → loadK P fr' t x K' = some r' := by
  unfold loadK at h
  split at h <;> first | (cases h; done) | skip
  rename_i agg ha
  split at h <;> first | (cases h; done) | skip
  · obtain ⟨v, h1, h2⟩ := loadRow_det h
    exact ⟨v, h1, fun fr' _ K' r' hk => by simp only [loadK, ha]; exact h2 K' r' hk⟩
  · split at h <;> first | (cases h; done) | skip
    · rename_i cells hlb
      split at h <;> first | (cases h; done) | skip
      obtain ⟨v, h1, h2⟩ := loadBox_det h
      exact ⟨v, h1, fun fr' hr K' r' hk => by have hb := hr.at rfl hlb; simp only [loadK, ha, hb]; exact h2 K' r' hk⟩
    · rename_i sz rows hlb
      split at h <;> first | (cases h; done) | skip
      rename_i row hrow
      obtain ⟨v, h1, h2⟩ := loadRow_det h
      exact ⟨v, h1, fun fr' hr K' r' hk => by have hb := hr.at rfl hlb; simp only [loadK, ha, hb, hrow]; exact h2 K' r' hk⟩
    · rename_i sz rows hlb
      split at h <;> first | (cases h; done) | skip
      rename_i row hrow
      obtain ⟨v, h1, h2⟩ := loadRow_det h
      exact ⟨v, h1, fun fr' hr K' r' hk => by have hb := hr.at rfl hlb; simp only [loadK, ha, hb, hrow]; exact h2 K' r' hk⟩

theorem wRows_loc {fr : Frames} {x : PV} {K : Nat → List (List RV) → Option R} {r : R} (h : wRows fr x K = some r) : ∃ sz rows, K sz rows = some r ∧ ∀ fr', Rd x fr fr' → ∀ (K' : Nat → List (List RV) → Option R) r', K' sz rows = some r' → wRows fr' x K' = some r' := by
  unfold wRows at h
  split at h <;> first | (cases h; done) | skip
  · exact ⟨_, _, h, fun fr' _ K' r' hk => hk⟩
  · exact ⟨_, _, h, fun fr' _ K' r' hk => hk⟩
  · exact ⟨_, _, h, fun fr' _ K' r' hk => hk⟩
  · exact ⟨_, _, h, fun fr' _ K' r' hk => hk⟩
  · split at h <;> first | (cases h; done) | skip
    rename_i sz rows hlb
    exact ⟨_, _, h, fun fr' hr K' r' hk => by have hb := hr.at rfl hlb; simp only [wRows, hb]; exact hk⟩
theorem wLen_det {x : PV} {K : Nat → Option R} {r : R} (h : wLen x K = some r) : ∃ n, K n = some r ∧ ∀ (K' : Nat → Option R) r', K' n = some r' → wLen x K' = some r' := by
  unfold wLen at h
  split at h <;> first | (cases h; done) | skip
  all_goals exact ⟨_, h, fun K' r' hk => hk⟩
theorem indexRows_det {size sz : Nat} {rows : List (List RV)} {i : Int} {K : PV → Option R} {r : R} (h : indexRows size sz rows i K = some r) : ∃ v, K v = some r ∧ ∀ (K' : PV → Option R) r', K' v = some r' → indexRows size sz rows i K' = some r' := by
  unfold indexRows at h
  split at h <;> first | (cases h; done) | skip
  rename_i row h1 h2 h3
  exact ⟨_, h, fun K' r' hk => by simp only [indexRows, h1, h2, h3]; exact hk⟩
theorem indexAddrK_loc {fr : Frames} {t : TypeId} {x : PV} {i : Int} {K : PV → Option R} {r : R} (h : indexAddrK P fr t x i K = some r) : ∃ v, K v = some r ∧ ∀ fr', Rd x fr fr' → ∀ (K' : PV → Option R) r', K' v = some r' → indexAddrK P fr' t x i K' = some r' := by
  unfold indexAddrK at h
  split at h <;> first | (cases h; done) | skip
  · rename_i e hd
    split at h <;> first | (cases h; done) | skip
    · obtain ⟨v, h1, h2⟩ := indexRows_det h
      exact ⟨v, h1, fun fr' _ K' r' hk => by simp only [indexAddrK, hd]; exact h2 K' r' hk⟩
    · obtain ⟨v, h1, h2⟩ := indexRows_det h
      exact ⟨v, h1, fun fr' _ K' r' hk => by simp only [indexAddrK, hd]; exact h2 K' r' hk⟩
    · split at h <;> first | (cases h; done) | skip
      rename_i sz rows hlb
      split at h <;> first | (cases h; done) | skip
      rename_i hc
      exact ⟨_, h, fun fr' hr K' r' hk => by have hb := hr.at rfl hlb; simp only [indexAddrK, hd, hb, hc]; exact hk⟩
  · rename_i n e hd
    split at h <;> first | (cases h; done) | skip
    rename_i hc
    split at h <;> first | (cases h; done) | skip
    · exact ⟨_, h, fun fr' _ K' r' hk => by simp only [indexAddrK, hd, hc]; exact hk⟩
    · exact ⟨_, h, fun fr' _ K' r' hk => by simp only [indexAddrK, hd, hc]; exact hk⟩
theorem boundK_det {o : Option PV} {d : Nat} {K : Int → Option R} {r : R} (h : boundK o d K = some r) : ∃ n, K n = some r ∧ ∀ (K' : Int → Option R) r', K' n = some r' → boundK o d K' = some r' := by
  unfold boundK at h
  split at h
  · exact ⟨_, h, fun K' r' hk => hk⟩
  · obtain ⟨k, n, h1, h2⟩ := wInt_det h
    exact ⟨n, h1, fun K' r' hk => h2 (fun _ n => K' n) r' hk⟩
theorem sliceRo_det {size : Nat} {x : PV} {n sz : Nat} {rows : List (List RV)} {l u : Int} {K : PV → Option R} {r : R} (h : sliceRo size x n sz rows l u K = some r) : ∃ v, K v = some r ∧ ∀ (K' : PV → Option R) r', K' v = some r' → sliceRo size x n sz rows l u K' = some r' := by
  unfold sliceRo at h
  split at h <;> first | (cases h; done) | skip
  rename_i hc
  split at h
  · split at h <;> first | (cases h; done) | skip
    · exact ⟨_, h, fun K' r' hk => by simp only [sliceRo, hc]; exact hk⟩
    · exact ⟨_, h, fun K' r' hk => by simp only [sliceRo, hc]; exact hk⟩
  · rename_i hne
    split at h <;> first | (cases h; done) | skip
    rename_i hs
    refine ⟨_, h, fun K' r' hk => ?_⟩
    cases rows with
    | nil => exact absurd rfl hne
    | cons a b => simp only [sliceRo, hc, hs]; exact hk
theorem slice3_det {x : PV} {l u m : Int} {K : PV → Option R} {r : R} (h : slice3 x l u m K = some r) : ∃ v, K v = some r ∧ ∀ (K' : PV → Option R) r', K' v = some r' → slice3 x l u m K' = some r' := by
  unfold slice3 at h
  split at h
  · rename_i hc
    split at h <;> first | (cases h; done) | skip
    all_goals exact ⟨_, h, fun K' r' hk => by simp only [slice3, hc]; exact hk⟩
  · rename_i hc
    split at h <;> first | (cases h; done) | skip
    split at h <;> first | (cases h; done) | skip
    rename_i hc2
    exact ⟨_, h, fun K' r' hk => by simp only [slice3, hc, hc2]; exact hk⟩
theorem sliceK_loc {fr : Frames} {t : TypeId} {x : PV} {lo hi mx : Option PV} {K : PV → Option R} {r : R} (h : sliceK P fr t x lo hi mx K = some r) : ∃ v, K v = some r ∧ ∀ fr', Rd x fr fr' → ∀ (K' : PV → Option R) r', K' v = some r' → sliceK P fr' t x lo hi mx K' = some r' := by
  unfold sliceK at h
  split at h <;> first | (cases h; done) | skip
  · rename_i hd
    split at h <;> first | (cases h; done) | skip
    split at h <;> first | (cases h; done) | skip
    obtain ⟨l, h1, h2⟩ := boundK_det h
    obtain ⟨u, h3, h4⟩ := boundK_det h1
    split at h3 <;> first | (cases h3; done) | skip
    rename_i hc
    refine ⟨_, h3, fun fr' _ K' r' hk => ?_⟩
    simp only [sliceK, hd]
    exact h2 _ r' (h4 _ r' (by simp only [hc]; exact hk))
  · rename_i e hd
    split at h <;> first | (cases h; done) | skip
    rename_i hz
    split at h
    · obtain ⟨n, h1, h2⟩ := wLen_det h
      obtain ⟨l, h3, h4⟩ := boundK_det h1
      obtain ⟨u, h5, h6⟩ := boundK_det h3
      have fin : ∀ fr' (K' : PV → Option R) r', (match x with
          | .s (.sl d k off _) => match lbAt fr' d k with
            | .arr sz rows => match decide (0 ≤ l) && decide (l ≤ u) && decide ((off : Int) + u ≤ (rows.length : Int)) && (sz == sizeT P e) with
              | true => K' (.s (.sl d k (off + l.toNat) (u.toNat - l.toNat)))
              | false => none
            | _ => none
          | _ => wRows fr' x fun sz rows => sliceRo (sizeT P e) x n sz rows l u K') = some r' → sliceK P fr' t x lo hi none K' = some r' := fun fr' K' r' hk => by
        simp only [sliceK, hd, hz]
        exact h2 _ r' (h4 _ r' (h6 _ r' hk))
      split at h5
      · split at h5 <;> first | (cases h5; done) | skip
        rename_i sz rows hlb
        split at h5 <;> first | (cases h5; done) | skip
        rename_i hc
        exact ⟨_, h5, fun fr' hr K' r' hk => fin fr' K' r' (by have hb := hr.at rfl hlb; simp only [hb, hc]; exact hk)⟩
      · rename_i hns
        obtain ⟨sz, rows, h7, h8⟩ := wRows_loc h5
        obtain ⟨v, h9, h10⟩ := sliceRo_det h7
        refine ⟨v, h9, fun fr' hr K' r' hk => fin fr' K' r' ?_⟩
        split
        · exact absurd rfl (hns _ _ _ _)
        · exact h8 fr' hr _ r' (h10 K' r' hk)
    · split at h <;> first | (cases h; done) | skip
      obtain ⟨l, h1, h2⟩ := boundK_det h
      obtain ⟨k, u, h3, h4⟩ := wInt_det h1
      obtain ⟨k', m, h5, h6⟩ := wInt_det h3
      obtain ⟨v, h7, h8⟩ := slice3_det h5
      refine ⟨v, h7, fun fr' _ K' r' hk => ?_⟩
      simp only [sliceK, hd, hz]
      exact h2 _ r' (h4 _ r' (h6 _ r' (h8 K' r' hk)))
theorem storeK_det {fr : Frames} {t : TypeId} {x v : PV} {K : Frames → Option R} {r : R} (h : storeK P fr t x v K = some r) : ∃ fr', K fr' = some r ∧ ∀ (K' : Frames → Option R) r', K' fr' = some r' → storeK P fr t x v K' = some r' := by
  unfold storeK at h
  split at h <;> first | (cases h; done) | skip
  split at h <;> first | (cases h; done) | skip
  rename_i h1 h2 h3
  split at h <;> first | (cases h; done) | skip
  · rename_i cells hlb
    split at h <;> first | (cases h; done) | skip
    rename_i hc
    split at h <;> first | (cases h; done) | skip
    obtain ⟨cs, h4, h5⟩ := unshiftAll_det h
    exact ⟨_, h4, fun K' r' hk => by simp only [storeK, h1, h2, h3, hlb, hc]; exact h5 _ r' hk⟩
  · rename_i sz rows hlb
    split at h <;> first | (cases h; done) | skip
    rename_i row hrow
    split at h <;> first | (cases h; done) | skip
    rename_i hc
    obtain ⟨cs, h4, h5⟩ := sealAll_det h
    exact ⟨_, h4, fun K' r' hk => by simp only [storeK, h1, h2, h3, hlb, hc, hrow]; exact h5 _ r' hk⟩

/-! ### What becomes of the frames -/
inductive Eff where
  | keep
  | alloc (lb : LB)
  | tok (k sz n n' : Nat)
  | wr (fr0 fr1 : Frames)
def Eff.ok (e : Eff) (ix : Nat) (fr : Frames) : Prop :=
  match e with
  | .keep => True
  | .alloc _ => ∃ loc up, fr = loc :: up ∧ loc.getD ix .none = .none
  | .tok k sz n _ => lbAt fr 0 k = .tok sz n
  | .wr fr0 _ => fr = fr0
def Eff.app (e : Eff) (ix : Nat) (fr : Frames) : Frames :=
  match e with
  | .keep => fr
  | .alloc lb => match fr with
    | loc :: up => setLoc loc ix lb :: up
    | [] => []
  | .tok k sz _ n' => setAt fr 0 k (.tok sz n')
  | .wr _ fr1 => fr1
def Eff.fits (e : Eff) (c : Nat) : Prop :=
  match e with
  | .keep => True
  | .alloc lb => c = 2 ∧ (∀ sz n, lb ≠ .tok sz n) ∧ lb ≠ .none ∨ c = 3 ∧ lb ≠ .none
  | .tok .. => c = 3
  | .wr .. => c = 4

theorem allocK_eff {fr : Frames} {ix : Nat} {b : LB} {K : Frames → Option R} {r : R} (h : allocK fr ix b K = some r) : (Eff.alloc b).ok ix fr ∧ K ((Eff.alloc b).app ix fr) = some r ∧
    ∀ fr', (Eff.alloc b).ok ix fr' → ∀ (K' : Frames → Option R) r', K' ((Eff.alloc b).app ix fr') = some r' → allocK fr' ix b K' = some r' := by
  obtain ⟨loc, up, rfl, h1, h2⟩ := allocK_some h
  refine ⟨⟨loc, up, rfl, h1⟩, h2, fun fr' ⟨loc', up', e, h3⟩ K' r' hk => ?_⟩
  subst e
  simp only [allocK, h3]
  exact hk

end Go.PM

set_option linter.unusedSectionVars false
namespace Go.PM
variable [LoopCodes]
variable {R : Type} {P : Program}

theorem appendNew_eff {fr : Frames} {loc : Bool} {ix : Nat} {e : TypeId} {sz : Nat} {ys : List (List RV)} {K : PV → Frames → Option R} {r : R} (h : appendNew P fr loc ix e sz ys K = some r) :
    ∃ v lb, lb ≠ .none ∧ (Eff.alloc lb).ok ix fr ∧ K v ((Eff.alloc lb).app ix fr) = some r ∧ ∀ fr', (Eff.alloc lb).ok ix fr' → ∀ (K' : PV → Frames → Option R) r', K' v ((Eff.alloc lb).app ix fr') = some r' → appendNew P fr' loc ix e sz ys K' = some r' := by
  unfold appendNew at h
  split at h <;> first | (cases h; done) | skip
  rename_i hc
  split at h
  · obtain ⟨h1, h2, h3⟩ := allocK_eff h
    exact ⟨_, _, by simp, h1, h2, fun fr' ho K' r' hk => by simp only [appendNew, hc]; exact h3 fr' ho _ r' hk⟩
  · obtain ⟨h1, h2, h3⟩ := allocK_eff h
    exact ⟨_, _, by simp, h1, h2, fun fr' ho K' r' hk => by simp only [appendNew, hc]; exact h3 fr' ho _ r' hk⟩

/-- An append to a token. -/
theorem appendK_eff {fr : Frames} {ix : Nat} {e : TypeId} {s x : PV} {K : PV → Frames → Option R} {r : R} (hdeep : ∀ sz rows d k, s ≠ .s (.tsl sz rows (d + 1) k)) (h : appendK P fr false ix e s x K = some r) :
    ∃ (v : PV) (f : Eff), f.fits 3 ∧ f.ok ix fr ∧ K v (f.app ix fr) = some r ∧ ∀ fr', Rd x fr fr' → f.ok ix fr' → ∀ (K' : PV → Frames → Option R) r', K' v (f.app ix fr') = some r' → appendK P fr' false ix e s x K' = some r' := by
  unfold appendK at h
  obtain ⟨szx, ys, hA, hB⟩ := wRows_loc h
  clear h
  split at hA
  · split at hA <;> first | (cases hA; done) | skip
    all_goals exact ⟨_, .keep, trivial, trivial, hA, fun fr' hr _ K' r' hk => by unfold appendK; exact hB fr' hr _ r' hk⟩
  · rename_i hne
    obtain ⟨y, ys, rfl⟩ : ∃ y ys', ys = y :: ys' := by
      cases ys with
      | nil => exact absurd rfl hne
      | cons y ys => exact ⟨y, ys, rfl⟩
    split at hA <;> first | (cases hA; done) | skip
    rename_i hsz
    split at hA <;> first | (cases hA; done) | skip
    · obtain ⟨v, lb, h1, h2, h3, h4⟩ := appendNew_eff hA
      exact ⟨v, .alloc lb, .inr ⟨rfl, h1⟩, h2, h3, fun fr' hr ho K' r' hk => by unfold appendK; exact hB fr' hr _ r' (by simp only [hsz]; exact h4 fr' ho K' r' hk)⟩
    · obtain ⟨v, lb, h1, h2, h3, h4⟩ := appendNew_eff hA
      exact ⟨v, .alloc lb, .inr ⟨rfl, h1⟩, h2, h3, fun fr' hr ho K' r' hk => by unfold appendK; exact hB fr' hr _ r' (by simp only [hsz]; exact h4 fr' ho K' r' hk)⟩
    · rename_i _ _ d _
      cases d with
      | succ d => exact absurd rfl (hdeep _ _ _ _)
      | zero => ?_
      split at hA <;> first | (cases hA; done) | skip
      rename_i sz' n hlb
      split at hA <;> first | (cases hA; done) | skip
      rename_i hc
      have hc' := hc
      simp only [Bool.and_eq_true, beq_iff_eq] at hc'
      have he := hc'.1.1.1.1
      subst he
      refine ⟨_, .tok _ _ n _, rfl, hlb, hA, fun fr' hr ho K' r' hk => ?_⟩
      unfold appendK
      refine hB fr' hr _ r' ?_
      have ho' := ho
      simp only [Eff.ok] at ho'
      simp only [hsz, ho', hc]
      exact hk

/-- Any append, from the same frames. -/
theorem appendK_det {fr : Frames} {loc : Bool} {ix : Nat} {e : TypeId} {s x : PV} {K : PV → Frames → Option R} {r : R} (h : appendK P fr loc ix e s x K = some r) :
    ∃ v fr1, K v fr1 = some r ∧ ∀ (K' : PV → Frames → Option R) r', K' v fr1 = some r' → appendK P fr loc ix e s x K' = some r' := by
  unfold appendK at h
  obtain ⟨szx, ys, hA, hB0⟩ := wRows_loc h
  have hB := hB0 fr (fun d k _ _ _ => rfl)
  clear h hB0
  split at hA
  · split at hA <;> first | (cases hA; done) | skip
    all_goals exact ⟨_, _, hA, fun K' r' hk => by unfold appendK; exact hB _ r' hk⟩
  · rename_i hne
    obtain ⟨y, ys, rfl⟩ : ∃ y ys', ys = y :: ys' := by
      cases ys with
      | nil => exact absurd rfl hne
      | cons y ys => exact ⟨y, ys, rfl⟩
    split at hA <;> first | (cases hA; done) | skip
    rename_i hsz
    split at hA <;> first | (cases hA; done) | skip
    · obtain ⟨v, lb, h1, h2, h3, h4⟩ := appendNew_eff hA
      exact ⟨v, _, h3, fun K' r' hk => by unfold appendK; exact hB _ r' (by simp only [hsz]; exact h4 fr h2 K' r' hk)⟩
    · obtain ⟨v, lb, h1, h2, h3, h4⟩ := appendNew_eff hA
      exact ⟨v, _, h3, fun K' r' hk => by unfold appendK; exact hB _ r' (by simp only [hsz]; exact h4 fr h2 K' r' hk)⟩
    · split at hA <;> first | (cases hA; done) | skip
      rename_i sz' n hlb
      split at hA <;> first | (cases hA; done) | skip
      rename_i hc
      exact ⟨_, _, hA, fun K' r' hk => by unfold appendK; exact hB _ r' (by simp only [hsz, hlb, hc]; exact hk)⟩
    · split at hA <;> first | (cases hA; done) | skip
      split at hA <;> first | (cases hA; done) | skip
      rename_i sz' rows hlb
      split at hA <;> first | (cases hA; done) | skip
      rename_i hc
      exact ⟨_, _, hA, fun K' r' hk => by unfold appendK; exact hB _ r' (by simp only [hsz, hlb, hc]; exact hk)⟩

/-- A call answers whatever comes after it. -/
def CallDet (call : CallF R) : Prop :=
  (∀ f args fr (K : PV → Option LB → Frames → Option R) r, call.fn f args fr K = some r → ∃ v mv fr', K v mv fr' = some r ∧ ∀ (K' : PV → Option LB → Frames → Option R) r', K' v mv fr' = some r' → call.fn f args fr K' = some r') ∧
  ∀ d k args fr (K : PV → Frames → Option R) r, call.yld d k args fr K = some r → ∃ v fr', K v fr' = some r ∧ ∀ (K' : PV → Frames → Option R) r', K' v fr' = some r' → call.yld d k args fr K' = some r'

theorem callK_eff {call : CallF R} (hC : CallDet call) (hT : ∀ f args (K : PV → Option LB → Frames → Option R) r, call.fn f args [] K = some r → ∃ v mv fr', K v mv fr' = some r ∧ ∀ lb, mv = some lb → lb ≠ .none ∧ ∀ sz n, lb ≠ .tok sz n)
    {vw sl : Bool} {b : Nat} {f : FuncId} {args : List PV} {ix : Nat} {fr : Frames} {K : PV → Frames → Option R} {r : R} (h : callK vw sl call (some b) f args ix fr K = some r) :
    ∃ (v : PV) (e : Eff), e.fits 2 ∧ e.ok ix fr ∧ K v (e.app ix fr) = some r ∧ ∀ fr', e.ok ix fr' → ∀ (K' : PV → Frames → Option R) r', K' v (e.app ix fr') = some r' → callK vw sl call (some b) f args ix fr' K' = some r' := by
  unfold callK at h
  split at h <;> first | (cases h; done) | skip
  rename_i hro
  obtain ⟨v, mv, fr1, h1, h2⟩ := hC.1 _ _ _ _ _ h
  split at h1 <;> first | (cases h1; done) | skip
  split at h1
  · exact ⟨v, .keep, trivial, trivial, h1, fun fr' _ K' r' hk => by simp only [callK, hro]; exact h2 _ r' hk⟩
  · rename_i lb
    cases sl with
    | false =>
      simp only [takeK] at h1
      obtain ⟨q1, q2, q3⟩ := allocK_eff h1
      have hlb : lb ≠ .none ∧ ∀ sz n, lb ≠ .tok sz n := by
        classical
        have h3 := h2 (fun v' mv' fr' => if mv' = some lb then some r else none) r (by simp)
        obtain ⟨v', mv', fr', e1, e2⟩ := hT _ _ _ _ h3
        by_cases e : mv' = some lb
        · exact e2 lb e
        · rw [if_neg e] at e1; cases e1
      exact ⟨_, .alloc lb, .inl ⟨rfl, hlb.2, hlb.1⟩, q1, q2, fun fr' ho K' r' hk => by simp only [callK, hro]; exact h2 _ r' (by simp only [takeK]; exact q3 fr' ho _ r' hk)⟩
    | true =>
      simp only [takeK] at h1
      split at h1 <;> first | (cases h1; done) | skip
      rename_i sz rows
      obtain ⟨q1, q2, q3⟩ := allocK_eff h1
      exact ⟨_, .alloc (.froz sz rows), .inl ⟨rfl, by simp, by simp⟩, q1, q2, fun fr' ho K' r' hk => by simp only [callK, hro]; exact h2 _ r' (by simp only [takeK]; exact q3 fr' ho _ r' hk)⟩

end Go.PM

set_option linter.unusedSectionVars false
namespace Go.PM
variable [LoopCodes]
variable {R : Type} {P : Program}

def readOps (o : Oper) : List Operand :=
  match o.op with
  | .load _ x | .slice _ x _ _ _ | .indexAddr _ x _ => [x]
  | .call c => c.args.toList
  | _ => []

/-- What comes of one operation: a value and what becomes of the frames; the same from other frames that agree where it reads. -/
def OpEff (P : Program) (hh : Hint) (f : FuncId) (call : CallF R) (b : Nat) (o : Oper) (ix : Nat) (st : St) (v : PV) (e : Eff) : Prop :=
  e.fits (cls hh f o) ∧ e.ok ix st.fr ∧ ∀ fr', (cls hh f o ≠ 0 → ∀ x ∈ readOps o, Rd (st.ev x) st.fr fr') → e.ok ix fr' → ∀ (K' : PV → Frames → Option R) r', K' v (e.app ix fr') = some r' → opK P hh f call (some b) o ix ⟨st.tmps, fr'⟩ K' = some r'

theorem builtin_eff {hh : Hint} {f : FuncId} {o : Oper} {bi : Builtin} {ts : List TypeId} {args : List PV} {ix : Nat} {fr : Frames} {K : PV → Frames → Option R} {r : R} {c : Nat}
    (hc : c = (match bi with | .append => (match hh.alloc f (o.dst.getD 0) with | 0 => 3 | _ => 4) | .len => 1 | .min | .max => 0 | _ => 5)) (hc4 : c ≤ 4) (hdeep : bi = .append → ∀ x ∈ args, ∀ sz rows d k, x ≠ .s (.tsl sz rows (d + 1) k)) (h : builtinK P hh f o bi ts args ix fr K = some r) :
    ∃ (v : PV) (e : Eff), K v (e.app ix fr) = some r ∧ e.fits c ∧ e.ok ix fr ∧ ∀ fr', (c ≠ 0 → ∀ x ∈ args, Rd x fr fr') → e.ok ix fr' → ∀ (K' : PV → Frames → Option R) r', K' v (e.app ix fr') = some r' → builtinK P hh f o bi ts args ix fr' K' = some r' := by
  unfold builtinK at h
  split at h <;> first | (cases h; done) | skip
  · -- len
    simp only at hc
    subst hc
    split at h <;> first | (cases h; done) | skip
    rename_i t x
    split at h <;> first | (cases h; done) | skip
    · rename_i n e hd
      exact ⟨_, .keep, h, trivial, trivial, fun fr' _ _ K' r' hk => by simp only [builtinK, hd]; exact hk⟩
    · rename_i kt et hd
      split at h <;> first | (cases h; done) | skip
      rename_i d k
      split at h <;> first | (cases h; done) | skip
      rename_i es hlb
      exact ⟨_, .keep, h, trivial, trivial, fun fr' hr _ K' r' hk => by
        have hb := (hr (by simp) (.s (.mp d k)) (by simp)).at (d := d) (k := k) rfl hlb
        simp only [builtinK, hd, hb]; exact hk⟩
    · rename_i e hd
      split at h
      · cases h
      · rename_i hns
        obtain ⟨n, h1, h2⟩ := wLen_det h
        refine ⟨_, .keep, h1, trivial, trivial, fun fr' _ _ K' r' hk => ?_⟩
        simp only [builtinK, hd]
        exact h2 (fun n => K' (.ro (.int .i64 n)) fr') r' hk
    · rename_i hd
      split at h <;> first | (cases h; done) | skip
      exact ⟨_, .keep, h, trivial, trivial, fun fr' _ _ K' r' hk => by simp only [builtinK, hd]; exact hk⟩
  · -- append
    simp only at hc
    split at h <;> first | (cases h; done) | skip
    rename_i t t' s x
    split at h <;> first | (cases h; done) | skip
    rename_i e ht hd
    split at h <;> first | (cases h; done) | skip
    rename_i hz
    cases ha : hh.alloc f (o.dst.getD 0) with
    | zero =>
      simp only [ha] at hc h
      subst hc
      obtain ⟨v, ef, h1, h2, h3, h4⟩ := appendK_eff (hdeep rfl _ (by simp)) h
      exact ⟨v, ef, h3, h1, h2, fun fr' hr ho K' r' hk => by
        simp only [builtinK, ht, hd, hz, ha]
        exact h4 fr' (hr (by simp) x (by simp)) ho K' r' hk⟩
    | succ n =>
      simp only [ha] at hc h
      subst hc
      obtain ⟨v, fr1, h1, h2⟩ := appendK_det h
      exact ⟨v, .wr fr fr1, h1, rfl, rfl, fun fr' _ ho K' r' hk => by
        have ho' : fr' = fr := ho
        subst ho'
        simp only [builtinK, ht, hd, hz, ha]
        exact h2 K' r' hk⟩
  · simp only at hc
    subst hc
    obtain ⟨v, h1, h2⟩ := minK_det h
    exact ⟨v, .keep, h1, trivial, trivial, fun fr' _ _ K' r' hk => h2 (fun v => K' v fr') r' hk⟩
  · simp only at hc
    subst hc
    obtain ⟨v, h1, h2⟩ := minK_det h
    exact ⟨v, .keep, h1, trivial, trivial, fun fr' _ _ K' r' hk => h2 (fun v => K' v fr') r' hk⟩
  · simp only at hc
    omega

theorem opK_eff {hh : Hint} {f : FuncId} {call : CallF R} (hC : CallDet call)
    (hT : ∀ f args (K : PV → Option LB → Frames → Option R) r, call.fn f args [] K = some r → ∃ v mv fr', K v mv fr' = some r ∧ ∀ lb, mv = some lb → lb ≠ .none ∧ ∀ sz n, lb ≠ .tok sz n)
    {b : Nat} {o : Oper} {ix : Nat} {st : St} {K : PV → Frames → Option R} {r : R} (hc : cls hh f o ≤ 4) (hro : readsOld (some b) o st = true) (h : opK P hh f call (some b) o ix st K = some r) :
    ∃ (v : PV) (e : Eff), K v (e.app ix st.fr) = some r ∧ OpEff P hh f call b o ix st v e := by
  obtain ⟨dst, op, type, pos, after, guard⟩ := o
  cases op
  case move x => exact ⟨_, .keep, h, trivial, trivial, fun fr' _ _ K' r' hk => hk⟩
  case assign x => exact ⟨_, .keep, h, trivial, trivial, fun fr' _ _ K' r' hk => hk⟩
  case pick c x y =>
    have h' : (wBool (st.ev c) fun t => match t with | true => K (st.ev x) st.fr | false => K (st.ev y) st.fr) = some r := h
    obtain ⟨t, h1, h2⟩ := wBool_det h'
    cases t with
    | true => exact ⟨_, .keep, h1, trivial, trivial, fun fr' _ _ K' r' hk => h2 (fun t => match t with | true => K' (st.ev x) fr' | false => K' (st.ev y) fr') r' hk⟩
    | false => exact ⟨_, .keep, h1, trivial, trivial, fun fr' _ _ K' r' hk => h2 (fun t => match t with | true => K' (st.ev x) fr' | false => K' (st.ev y) fr') r' hk⟩
  case nilCheck x =>
    simp only [opK, execK] at h
    split at h <;> first | (cases h; done) | skip
    all_goals
      rename_i he
      exact ⟨_, .keep, h, trivial, trivial, fun fr' _ _ K' r' hk => by
        have he' : (⟨st.tmps, fr'⟩ : St).ev x = st.ev x := rfl
        simp only [opK, execK, he', he]; exact hk⟩
  case binOp op t x y res =>
    obtain ⟨v, h1, h2⟩ := binOpK_det (K := fun v => K v st.fr) h
    exact ⟨v, .keep, h1, trivial, trivial, fun fr' _ _ K' r' hk => h2 (fun v => K' v fr') r' hk⟩
  case unOp op t x =>
    obtain ⟨v, h1, h2⟩ := unOpK_det (K := fun v => K v st.fr) h
    exact ⟨v, .keep, h1, trivial, trivial, fun fr' _ _ K' r' hk => h2 (fun v => K' v fr') r' hk⟩
  case convert src dst x =>
    obtain ⟨v, h1, h2⟩ := convertK_det (K := fun v => K v st.fr) h
    exact ⟨v, .keep, h1, trivial, trivial, fun fr' _ _ K' r' hk => h2 (fun v => K' v fr') r' hk⟩
  case fieldAddr t x i =>
    simp only [opK, execK] at h
    split at h <;> first | (cases h; done) | skip
    rename_i off ft ho
    split at h <;> first | (cases h; done) | skip
    all_goals
      rename_i he
      exact ⟨_, .keep, h, trivial, trivial, fun fr' _ _ K' r' hk => by
        have he' : (⟨st.tmps, fr'⟩ : St).ev x = st.ev x := rfl
        simp only [opK, execK, he', he, ho]; exact hk⟩
  case extract x i =>
    simp only [opK, execK] at h
    split at h <;> first | (cases h; done) | skip
    rename_i vs he
    split at h <;> first | (cases h; done) | skip
    rename_i v hv
    exact ⟨_, .keep, h, trivial, trivial, fun fr' _ _ K' r' hk => by
        have he' : (⟨st.tmps, fr'⟩ : St).ev x = st.ev x := rfl
        simp only [opK, execK, he', he, hv]; exact hk⟩
  case load t x =>
    obtain ⟨v, h1, h2⟩ := loadK_loc (K := fun v => K v st.fr) h
    exact ⟨v, .keep, h1, trivial, trivial, fun fr' hr _ K' r' hk => h2 fr' (hr (by simp [cls]) x (by simp [readOps])) (fun v => K' v fr') r' hk⟩
  case slice t x lo hi mx =>
    obtain ⟨v, h1, h2⟩ := sliceK_loc (K := fun v => K v st.fr) h
    exact ⟨v, .keep, h1, trivial, trivial, fun fr' hr _ K' r' hk => h2 fr' (hr (by simp [cls]) x (by simp [readOps])) (fun v => K' v fr') r' hk⟩
  case indexAddr t x i =>
    obtain ⟨k, n, h1, h2⟩ := wInt_det (K := fun _ n => indexAddrK P st.fr t (st.ev x) n fun v => K v st.fr) h
    obtain ⟨v, h3, h4⟩ := indexAddrK_loc h1
    exact ⟨v, .keep, h3, trivial, trivial, fun fr' hr _ K' r' hk => h2 (fun _ n => indexAddrK P fr' t (st.ev x) n fun v => K' v fr') r' (h4 fr' (hr (by simp [cls]) x (by simp [readOps])) (fun v => K' v fr') r' hk)⟩
  case alloc t =>
    have ht : hh.toks f (dst.getD 0) = [] := by
      simp only [cls] at hc
      split at hc
      · assumption
      · omega
    have hc2 : cls hh f ⟨dst, .alloc t, type, pos, after, guard⟩ = 2 := by simp only [cls, ht]
    simp only [opK, execK, ht] at h
    obtain ⟨z, h1, h2⟩ := zeroT_det (K := fun z => allocK st.fr ix (.box (z.map .ro)) fun fr' => K (.s (.ptr 0 ix 0 0)) fr') h
    obtain ⟨h3, h4, h5⟩ := allocK_eff h1
    exact ⟨_, .alloc _, h4, .inl ⟨hc2, by simp, by simp⟩, h3, fun fr' _ ho K' r' hk => by
      simp only [opK, execK, ht]
      exact h2 (fun z => allocK fr' ix (.box (z.map .ro)) fun fr' => K' (.s (.ptr 0 ix 0 0)) fr') r' (h5 fr' ho (fun fr' => K' (.s (.ptr 0 ix 0 0)) fr') r' hk)⟩
  case store t x y =>
    obtain ⟨fr1, h1, h2⟩ := storeK_det (K := fun fr => K skipP fr) h
    exact ⟨_, .wr st.fr fr1, h1, rfl, rfl, fun fr' _ ho K' r' hk => by
      have ho' : fr' = st.fr := ho
      subst ho'
      exact h2 (fun fr => K' skipP fr) r' hk⟩
  case buildSlice t len ps =>
    simp only [opK, execK] at h
    split at h <;> first | (cases h; done) | skip
    rename_i e hd
    split at h
    · split at h <;> first | (cases h; done) | skip
      rename_i hps
      split at h <;> first | (cases h; done) | skip
      rename_i hok
      exact ⟨_, .keep, h, trivial, trivial, fun fr' _ _ K' r' hk => by simp only [opK, execK, hd, hps, hok]; exact hk⟩
    · rename_i hlen
      obtain ⟨z, h1, h2⟩ := zeroT_det h
      split at h1 <;> first | (cases h1; done) | skip
      rename_i hb
      obtain ⟨out, h3, h4⟩ := fillK_det h1
      obtain ⟨vs, h5, h6⟩ := sealAll_det h3
      split at h5 <;> first | (cases h5; done) | skip
      rename_i hok
      have hp : ∀ fr', parts (⟨st.tmps, fr'⟩ : St) ps.toList = parts st ps.toList := fun fr' => rfl
      have fin : ∀ fr' (K' : PV → Frames → Option R) r', (match hh.alloc f (dst.getD 0) with
            | 0 => K' (.ro (.vsl (sizeT P e) (chop (sizeT P e) len vs))) fr'
            | _ => allocK fr' ix (.arr (sizeT P e) (chop (sizeT P e) len vs)) fun fr' => K' (.s (.sl 0 ix 0 len)) fr') = some r' → opK P hh f call (some b) ⟨dst, .buildSlice t len ps, type, pos, after, guard⟩ ix ⟨st.tmps, fr'⟩ K' = some r' := fun fr' K' r' hk => by
        cases len with
        | zero => exact absurd rfl hlen
        | succ len =>
          simp only [opK, execK, hd, hp, hb] at h2 ⊢
          exact h2 _ r' (h4 _ r' (h6 _ r' (by simp only [hok]; exact hk)))
      cases ha : hh.alloc f (dst.getD 0) with
      | zero =>
        simp only [ha] at h5
        exact ⟨_, .keep, h5, trivial, trivial, fun fr' _ _ K' r' hk => fin fr' K' r' (by simp only [ha]; exact hk)⟩
      | succ n =>
        simp only [ha] at h5
        obtain ⟨q1, q2, q3⟩ := allocK_eff h5
        refine ⟨_, .alloc _, q2, .inl ⟨by simp [cls, ha], by simp, by simp⟩, q1, fun fr' _ ho K' r' hk => fin fr' K' r' ?_⟩
        simp only [ha]
        exact q3 fr' ho (fun fr' => K' (.s (.sl 0 ix 0 len)) fr') r' hk
  case call c =>
    have hev : ∀ fr' x, (⟨st.tmps, fr'⟩ : St).ev x = st.ev x := fun fr' x => rfl
    simp only [opK] at h
    split at h
    · rename_i x hcal
      have h2c : cls hh f ⟨dst, .call c, type, pos, after, guard⟩ = 2 := by simp [cls, hcal]
      split at h <;> first | (cases h; done) | skip
      all_goals
        rename_i he
        obtain ⟨v, e, h1, h2, h3, h4⟩ := callK_eff hC hT h
        refine ⟨v, e, h3, by rw [h2c]; exact h1, h2, fun fr' _ ho K' r' hk => ?_⟩
        simp only [opK, hcal, hev, he]
        exact h4 fr' ho K' r' hk
    · rename_i hcal
      simp only [execK] at h
      split at h <;> first | (cases h; done) | skip
      rename_i bi hbi
      obtain ⟨v, e, h1, h2, h3, h4⟩ := builtin_eff (c := cls hh f ⟨dst, .call c, type, pos, after, guard⟩) (by simp only [cls, hbi]; cases bi <;> rfl) hc (fun _ x hx sz rows d k e => by
        obtain ⟨y, hy, h0⟩ := List.mem_map.1 hx
        simp only [readsOld] at hro
        have := List.all_eq_true.1 hro y hy
        rw [h0, e] at this
        cases this) h
      refine ⟨v, e, h1, h2, h3, fun fr' hr ho K' r' hk => ?_⟩
      simp only [opK, hbi, execK]
      exact h4 fr' (fun h0 x hx => by
        obtain ⟨y, hy, rfl⟩ := List.mem_map.1 hx
        exact hr h0 y (by simpa [readOps] using hy)) ho K' r' hk
  all_goals (exfalso; simp [cls] at hc)

end Go.PM

set_option linter.unusedSectionVars false
namespace Go.PM
variable [LoopCodes]
variable {R : Type} {P : Program}

theorem setLoc_length (loc : List LB) (ix : Nat) (b : LB) : (setLoc loc ix b).length = max loc.length (ix + 1) := by
  unfold setLoc
  split
  · rename_i h
    have h' : ix < loc.length := by simpa using h
    rw [List.length_set]; omega
  · rename_i h
    have h' : ¬ ix < loc.length := fun hc => by rw [← Nat.blt_eq] at hc; rw [hc] at h; cases h
    simp; omega

theorem ext_getD {l l' : List LB} (hl : l.length = l'.length) (h : ∀ k : Nat, l[k]?.getD LB.none = l'[k]?.getD LB.none) : l = l' := by
  apply List.ext_getElem hl
  intro k h1 h2
  have := h k
  rw [List.getElem?_eq_getElem h1, List.getElem?_eq_getElem h2] at this
  simpa using this

theorem setLoc_comm (loc : List LB) {i j : Nat} (h : i ≠ j) (a b : LB) : setLoc (setLoc loc i a) j b = setLoc (setLoc loc j b) i a := by
  apply ext_getD
  · simp only [setLoc_length]; omega
  · intro k
    simp only [setLoc_get]
    by_cases h1 : k = j
    · by_cases h2 : k = i
      · omega
      · simp [h1]; intro e; omega
    · simp [h1]

theorem set_getD (l : List LB) (k : Nat) (t : LB) (hk : k < l.length) (j : Nat) : (l.set k t)[j]?.getD .none = if j = k then t else l[j]?.getD .none := by
  rw [List.getElem?_set]
  by_cases h : k = j
  · subst h; simp [hk]
  · simp [h, Ne.symm h]

theorem setLoc_set (loc : List LB) {ix k : Nat} (h : k ≠ ix) (hk : k < loc.length) (lb t : LB) : setLoc (loc.set k t) ix lb = (setLoc loc ix lb).set k t := by
  have hk' : k < (setLoc loc ix lb).length := by rw [setLoc_length]; omega
  apply ext_getD
  · simp only [setLoc_length, List.length_set]
  · intro j
    rw [set_getD _ _ _ hk', setLoc_get, set_getD _ _ _ hk, setLoc_get]
    by_cases h1 : j = ix
    · by_cases h2 : j = k
      · omega
      · simp [h1, h2]; intro e; omega
    · simp [h1]

/-- What is old is read alike before and after. -/
theorem Eff.rd {e : Eff} {ix b : Nat} {fr : Frames} (hb : b ≤ ix) (ho : e.ok ix fr) (hw : ∀ fr0 fr1, e ≠ .wr fr0 fr1) {x : PV} (hx : pvOld b x = true) : Rd x fr (e.app ix fr) ∧ Rd x (e.app ix fr) fr := by
  have hr : ∀ d k, refs x = some (d, k) → d = 0 → k < b := fun d k h h0 => by
    subst h0
    unfold refs at h
    split at h <;> cases h <;> simpa [pvOld] using hx
  cases e with
  | keep => exact ⟨fun d k _ _ _ => rfl, fun d k _ _ _ => rfl⟩
  | alloc lb =>
    obtain ⟨loc, up, rfl, h1⟩ := ho
    have hne : ∀ d k, refs x = some (d, k) → ¬ (d = 0 ∧ k = ix) := fun d k h hh => by have := hr d k h hh.1; omega
    exact ⟨fun d k h _ _ => by simp only [Eff.app]; rw [lbAt_setLoc, if_neg (hne d k h)], fun d k h _ _ => by simp only [Eff.app]; rw [lbAt_setLoc, if_neg (hne d k h)]⟩
  | tok k0 sz n n' =>
    have hn : lbAt fr 0 k0 ≠ .none := by
      have : lbAt fr 0 k0 = .tok sz n := ho
      rw [this]; simp
    refine ⟨fun d k h _ ht => ?_, fun d k h _ ht => ?_⟩
    · simp only [Eff.app]
      rw [lbAt_setAt _ _ _ _ hn, if_neg]
      rintro ⟨rfl, rfl⟩
      exact ht sz n ho
    · simp only [Eff.app] at ht ⊢
      rw [lbAt_setAt _ _ _ _ hn] at ht ⊢
      rw [if_neg]
      intro hh
      rw [if_pos hh] at ht
      exact ht _ _ rfl
  | wr fr0 fr1 => exact absurd rfl (hw fr0 fr1)

/-- Two that touch frames, neither of them a write, not both tokens. -/
theorem Eff.comm {ei ej : Eff} {i j : Nat} {fr : Frames} {ci cj : Nat} (hij : i ≠ j) (hi : ei.fits ci) (hj : ej.fits cj) (hc : clash ci cj = false) (oi : ei.ok i fr) (oj : ej.ok j (ei.app i fr)) :
    ej.ok j fr ∧ ei.ok i (ej.app j fr) ∧ ej.app j (ei.app i fr) = ei.app i (ej.app j fr) := by
  cases ei with
  | keep => exact ⟨oj, trivial, rfl⟩
  | wr fr0 fr1 =>
    cases ej with
    | keep => exact ⟨trivial, oi, rfl⟩
    | alloc lb =>
      have h4 : ci = 4 := hi
      subst h4
      rcases hj with ⟨h, _⟩ | ⟨h, _⟩ <;> subst h <;> simp [clash] at hc
    | tok k sz n n' =>
      have h4 : ci = 4 := hi
      have h3 : cj = 3 := hj
      subst h4; subst h3; simp [clash] at hc
    | wr _ _ =>
      have h4 : ci = 4 := hi
      have h3 : cj = 4 := hj
      subst h4; subst h3; simp [clash] at hc
  | alloc lb =>
    obtain ⟨loc, up, rfl, h1⟩ := oi
    cases ej with
    | keep => exact ⟨trivial, ⟨loc, up, rfl, h1⟩, rfl⟩
    | wr _ _ =>
      have h4 : cj = 4 := hj
      subst h4
      rcases hi with ⟨h, _⟩ | ⟨h, _⟩ <;> subst h <;> simp [clash] at hc
    | alloc lb' =>
      obtain ⟨loc', up', e, h2⟩ := oj
      simp only [Eff.app] at e
      cases e
      have h3 : loc.getD j .none = .none := by
        rw [List.getD_eq_getElem?_getD, setLoc_get, if_neg (Ne.symm hij)] at h2
        rw [List.getD_eq_getElem?_getD]; exact h2
      refine ⟨⟨loc, up, rfl, h3⟩, ⟨_, up, rfl, ?_⟩, ?_⟩
      · rw [List.getD_eq_getElem?_getD, setLoc_get, if_neg hij]
        rw [List.getD_eq_getElem?_getD] at h1; exact h1
      · simp only [Eff.app]; rw [setLoc_comm _ hij]
    | tok k sz n n' =>
      have hj3 : cj = 3 := hj
      subst hj3
      have ht : ∀ sz n, lb ≠ .tok sz n := by
        rcases hi with ⟨_, h, _⟩ | ⟨h, _⟩
        · exact h
        · subst h; simp [clash] at hc
      have oj' : lbAt (setLoc loc i lb :: up) 0 k = .tok sz n := oj
      rw [lbAt_setLoc] at oj'
      have hk : k ≠ i := fun e => by rw [if_pos ⟨rfl, e⟩] at oj'; exact ht _ _ oj'
      rw [if_neg (fun h => hk h.2)] at oj'
      have hkl : k < loc.length := by
        rcases Nat.lt_or_ge k loc.length with h | h
        · exact h
        · simp [lbAt, List.getD_eq_getElem?_getD, List.getElem?_eq_none h] at oj'
      refine ⟨oj', ⟨_, up, setAt_cons_zero _ _ _ _, ?_⟩, ?_⟩
      · rw [List.getD_eq_getElem?_getD, set_getD _ _ _ hkl, if_neg (Ne.symm hk)]
        rw [List.getD_eq_getElem?_getD] at h1; exact h1
      · simp only [Eff.app, setAt_cons_zero]
        rw [setLoc_set _ hk hkl]
  | tok k sz n n' =>
    have hi3 : ci = 3 := hi
    subst hi3
    have oi' : lbAt fr 0 k = .tok sz n := oi
    have hn : lbAt fr 0 k ≠ .none := by rw [oi']; simp
    cases ej with
    | keep => exact ⟨trivial, oi, rfl⟩
    | wr _ _ =>
      have h4 : cj = 4 := hj
      subst h4; simp [clash] at hc
    | tok _ _ _ _ =>
      have h4 : cj = 3 := hj
      subst h4; simp [clash] at hc
    | alloc lb =>
      obtain ⟨loc', up', e, h2⟩ := oj
      obtain ⟨loc, up, rfl⟩ : ∃ loc up, fr = loc :: up := by
        cases fr with
        | nil => simp [lbAt] at oi'
        | cons a b => exact ⟨a, b, rfl⟩
      simp only [Eff.app, setAt_cons_zero] at e
      cases e
      have hkl : k < loc.length := by
        rcases Nat.lt_or_ge k loc.length with h | h
        · exact h
        · simp [lbAt, List.getD_eq_getElem?_getD, List.getElem?_eq_none h] at oi'
      have hk : k ≠ j := fun e => by
        subst e
        rw [List.getD_eq_getElem?_getD, set_getD _ _ _ hkl, if_pos rfl] at h2
        cases h2
      have h3 : loc.getD j .none = .none := by
        rw [List.getD_eq_getElem?_getD, set_getD _ _ _ hkl, if_neg (Ne.symm hk)] at h2
        rw [List.getD_eq_getElem?_getD]; exact h2
      refine ⟨⟨loc, _, rfl, h3⟩, ?_, ?_⟩
      · show lbAt (setLoc loc j lb :: _) 0 k = _
        rw [lbAt_setLoc, if_neg (fun h => hk h.2)]; exact oi'
      · simp only [Eff.app, setAt_cons_zero]
        rw [setLoc_set _ hk hkl]

end Go.PM

set_option linter.unusedSectionVars false
namespace Go.PM
variable [LoopCodes]
variable {R : Type} {P : Program}

theorem opK_congr {hh : Hint} {f : FuncId} {call : CallF R} {base : Option Nat} {o : Oper} {ix : Nat} {T T' : List PV} {fr : Frames} {K : PV → Frames → Option R} (hs : cls hh f o ≤ 4)
    (h : ∀ x ∈ o.op.operands, (⟨T', fr⟩ : St).ev x = (⟨T, fr⟩ : St).ev x) : opK P hh f call base o ix ⟨T', fr⟩ K = opK P hh f call base o ix ⟨T, fr⟩ K := by
  obtain ⟨dst, op, type, pos, after, guard⟩ := o
  have hcall : ∀ c : Call, op = .call c → (∀ x ∈ c.args.toList, (⟨T', fr⟩ : St).ev x = (⟨T, fr⟩ : St).ev x) ∧ (∀ x, c.callee = .value x → (⟨T', fr⟩ : St).ev x = (⟨T, fr⟩ : St).ev x) := fun c hc => by
    subst hc
    simp only [Op.operands, Call.operands] at h
    refine ⟨fun x hx => h x ?_, fun x hx => h x ?_⟩
    · simp at hx ⊢; exact .inr hx
    · simp [hx]
  cases op
  case buildSlice t len ps =>
    have hp : parts (⟨T', fr⟩ : St) ps.toList = parts (⟨T, fr⟩ : St) ps.toList := by
      simp only [parts]
      apply List.map_congr_left
      rintro ⟨i, x⟩ hx
      rw [h x (by simp only [Op.operands]; simp; exact ⟨i, by simpa using hx⟩)]
    simp only [opK, execK, hp]
  case slice t x lo hi mx =>
    have h0 : (⟨T', fr⟩ : St).ev x = (⟨T, fr⟩ : St).ev x := h x (by simp [Op.operands])
    have h1 : lo.map (St.ev ⟨T', fr⟩) = lo.map (St.ev ⟨T, fr⟩) := by cases lo <;> simp_all [Op.operands]
    have h2 : hi.map (St.ev ⟨T', fr⟩) = hi.map (St.ev ⟨T, fr⟩) := by cases hi <;> simp_all [Op.operands]
    have h3 : mx.map (St.ev ⟨T', fr⟩) = mx.map (St.ev ⟨T, fr⟩) := by cases mx <;> simp_all [Op.operands]
    simp only [opK, execK, h0, h1, h2, h3]
  case call c =>
    obtain ⟨h1, h2⟩ := hcall c rfl
    have e1 : c.args.toList.map (St.ev ⟨T', fr⟩) = c.args.toList.map (St.ev ⟨T, fr⟩) := List.map_congr_left h1
    have e2 : (c.args.toList.map fun a => toArg ((⟨T', fr⟩ : St).ev a)) = c.args.toList.map fun a => toArg ((⟨T, fr⟩ : St).ev a) := List.map_congr_left fun x hx => by rw [h1 x hx]
    simp only [opK]
    split
    · rename_i x hx
      rw [h2 x hx, e2]
    · simp only [execK, e1]
  all_goals first
    | (exfalso; simp [cls] at hs; done)
    | (simp only [opK, execK]; done)
    | (simp only [Op.operands] at h
       simp only [opK, execK]
       simp_all; done)

def gP (ops : Array Oper) (o : Oper) (T : List PV) : Option Bool :=
  match o.guard with
  | none => some true
  | some (j, want) => match (ops[j]?).bind (·.dst) with
    | some t => match T[t]? with
      | some (.s (.ro (.bool b))) => some (b == want)
      | some (.s (.ro (.tup _))) => some false
      | _ => none
    | none => none

theorem set_same {l : List PV} {t : Nat} {v : PV} (h : l[t]? = some v) : l.set t v = l := by
  apply List.ext_getElem?
  intro i
  rw [List.getElem?_set]
  split
  · rename_i e
    subst e
    split
    · exact h.symm
    · rename_i hn
      exact absurd (List.getElem?_eq_some_iff.1 h).1 hn
  · rfl

theorem guardK_det {ops : Array Oper} {o : Oper} {st : St} {KA KB : St → Option R} {r : R} (h : guardK ops o st KA KB = some r) : ∃ w, gP ops o st.tmps = some w ∧ (w = true → KA st = some r) ∧ (w = false → KB st = some r) := by
  unfold guardK at h
  split at h
  · rename_i hg
    exact ⟨true, by simp [gP, hg], fun _ => h, (fun e => by cases e)⟩
  · rename_i j want hg
    split at h <;> first | (cases h; done) | skip
    rename_i t ht
    split at h <;> first | (cases h; done) | skip
    · rename_i b hb
      have hset : ({ st with tmps := st.tmps.set t (.ro (.bool b)) } : St) = st := by rw [set_same hb]
      refine ⟨b == want, by simp only [gP, hg, ht, hb], fun e => ?_, fun e => ?_⟩
      · cases b <;> cases want <;> first | (cases e; done) | (simp only [hset] at h; exact h)
      · cases b <;> cases want <;> first | (cases e; done) | (simp only [hset] at h; exact h)
    · rename_i vs hb
      exact ⟨false, by simp only [gP, hg, ht, hb], (fun e => by cases e), fun _ => h⟩

theorem gP_rel {ops : Array Oper} {o : Oper} {E : Entry} {m : Mem} {g : Gh} {st : St} {a : Act} {w : World} (hs : SRel E m g st a w) {x : Bool} (h : gP ops o st.tmps = some x) : Region.wanted o (yielded ops a.tmps) = x := by
  unfold gP at h
  split at h
  · rename_i hg
    cases h
    simp [Region.wanted, hg]
  · rename_i j want hg
    split at h <;> first | (cases h; done) | skip
    rename_i t ht
    have hat : ∀ v, st.tmps[t]? = some v → ∃ c, a.tmps[t]? = some c ∧ PVR m g v c := fun v hv => by
      have h1 : t < st.tmps.length := (List.getElem?_eq_some_iff.1 hv).1
      have h2 : t < a.tmps.size := by rw [← hs.len]; exact h1
      exact ⟨_, Array.getElem?_eq_getElem h2, hs.tmps t v _ hv (Array.getElem?_eq_getElem h2)⟩
    split at h <;> first | (cases h; done) | skip
    · rename_i b hv
      cases h
      obtain ⟨c, hc, hr⟩ := hat _ hv
      have hcb := pv_bool hr
      subst hcb
      have hy : yielded ops a.tmps j = some b := by simp [yielded, ht, hc]
      simp [Region.wanted, hg, hy]
    · rename_i vs hv
      cases h
      obtain ⟨c, hc, hr⟩ := hat _ hv
      simp only [PVR, SVR, VRr] at hr
      obtain ⟨cs, rfl, _⟩ := hr
      have hy : yielded ops a.tmps j = none := by simp [yielded, ht, hc]
      simp [Region.wanted, hg, hy]

/-- One step of a region. -/
structure PStep (P : Program) (hh : Hint) (f : FuncId) (call : CallF R) (ops : Array Oper) (b i : Nat) (o : Oper) (w : Bool) (v : PV) (e : Eff) (st st' : St) : Prop where
  wanted : gP ops o st.tmps = some w
  run : w = true → readsOld (some b) o st = true ∧ OpEff P hh f call b o (b + i) st v e
  skip : w = false → v = skipP ∧ e = .keep
  eq : st' = ⟨putT st.tmps o.dst v, e.app (b + i) st.fr⟩

theorem PStep.fits {hh : Hint} {f : FuncId} {call : CallF R} {ops : Array Oper} {b i : Nat} {o : Oper} {w : Bool} {v : PV} {e : Eff} {st st' : St} (h : PStep P hh f call ops b i o w v e st st') : e.fits (cls hh f o) ∧ e.ok (b + i) st.fr := by
  cases w with
  | true => exact ⟨(h.run rfl).2.1, (h.run rfl).2.2.1⟩
  | false => rw [(h.skip rfl).2]; exact ⟨trivial, trivial⟩

theorem putT_get (T : List PV) (d : Option Tmp) (v : PV) (t : Nat) (h : d ≠ some t) : (putT T d v)[t]? = T[t]? := by
  cases d with
  | none => rfl
  | some e =>
    have : e ≠ t := fun x => h (by rw [x])
    simp [putT, List.getElem?_set, this]

theorem putT_comm (T : List PV) {d d' : Option Tmp} (v v' : PV) (h : ∀ t, d = some t → d' ≠ some t) : putT (putT T d v) d' v' = putT (putT T d' v') d v := by
  cases d with
  | none => rfl
  | some t => cases d' with
    | none => rfl
    | some t' =>
      have hne : t ≠ t' := fun e => h t rfl (by rw [e])
      simp only [putT]
      exact List.set_comm _ _ hne

theorem gP_put {ops : Array Oper} {o : Oper} {T : List PV} {d : Option Tmp} {v : PV} (h : ∀ t, d = some t → t ∉ o.looksAt ops) : gP ops o (putT T d v) = gP ops o T := by
  unfold gP
  split
  · rfl
  · rename_i j want hg
    split
    · rename_i t ht
      rw [putT_get _ _ _ _ fun e => h t e (by simp [Oper.looksAt, hg, ht])]
    · rfl

theorem ev_put {ops : Array Oper} {o : Oper} {T : List PV} {fr fr' : Frames} {d : Option Tmp} {v : PV} (h : ∀ t, d = some t → t ∉ o.looksAt ops) : ∀ x ∈ o.op.operands, (⟨putT T d v, fr⟩ : St).ev x = (⟨T, fr'⟩ : St).ev x := fun x hx => by
  cases x with
  | tmp t =>
    simp only [St.ev, List.getD_eq_getElem?_getD]
    rw [putT_get _ _ _ _ fun e => h t e (List.mem_append_left _ (List.mem_filterMap.2 ⟨.tmp t, by simpa using hx, rfl⟩))]
  | _ => rfl

theorem readOps_operands {o : Oper} {x : Operand} (h : x ∈ readOps o) : x ∈ o.op.operands := by
  unfold readOps at h
  split at h <;> simp_all [Op.operands, Call.operands]

theorem readsOld_rd {b : Nat} {o : Oper} {st : St} (h : readsOld (some b) o st = true) : ∀ x ∈ readOps o, pvOld b (st.ev x) = true := fun x hx => by
  obtain ⟨dst, op, type, pos, after, guard⟩ := o
  cases op <;> simp only [readOps] at hx <;> simp only [readsOld] at h
  case load => simp at hx; subst hx; exact h
  case slice => simp at hx; subst hx; exact h
  case indexAddr => simp at hx; subst hx; exact h
  case call c => exact List.all_eq_true.1 h x hx
  all_goals cases hx

theorem readsOld_congr {b : Nat} {o : Oper} {st st' : St} (h : ∀ x ∈ o.op.operands, st'.ev x = st.ev x) : readsOld (some b) o st' = readsOld (some b) o st := by
  obtain ⟨dst, op, type, pos, after, guard⟩ := o
  cases op <;> simp only [readsOld]
  case load t x => rw [h x (by simp [Op.operands])]
  case slice t x lo hi mx => rw [h x (by simp [Op.operands])]
  case indexAddr t x i => rw [h x (by simp [Op.operands])]
  case lookup t x i ok => rw [h x (by simp [Op.operands])]
  case call c =>
    have h1 : ∀ x ∈ c.args.toList, st'.ev x = st.ev x := fun x hx => h x (by simp only [Op.operands, Call.operands]; simp at hx ⊢; exact .inr hx)
    rw [Bool.eq_iff_iff, List.all_eq_true, List.all_eq_true]
    exact ⟨fun q x hx => by rw [← h1 x hx]; exact q x hx, fun q x hx => by rw [h1 x hx]; exact q x hx⟩

end Go.PM

set_option linter.unusedSectionVars false
namespace Go.PM
variable [LoopCodes]
variable {R : Type} {P : Program}

theorem Rd.trans {x : PV} {a b c : Frames} (h : Rd x a b) (h' : Rd x b c) : Rd x a c := fun d k hr hn ht => by
  have e := h d k hr hn ht
  rw [h' d k hr (by rw [e]; exact hn) (fun sz n => by rw [e]; exact ht sz n), e]

theorem clash_four {c : Nat} (h0 : c ≠ 0) (h4 : c ≤ 4) : clash 4 c = true ∧ clash c 4 = true := by
  match c, h0, h4 with
  | 1, _, _ | 2, _, _ | 3, _, _ | 4, _, _ => exact ⟨rfl, rfl⟩

section
variable {hh : Hint} {f : FuncId} {call : CallF R} {ops : Array Oper} {b : Nat}

theorem PStep.comm {i j : Nat} {oi oj : Oper} {wi wj : Bool} {vi vj : PV} {ei ej : Eff} {st s1 s2 : St} (hij : i ≠ j) (hap : oi.apart ops oj = true) (hcl : clash (cls hh f oi) (cls hh f oj) = false) (hci : cls hh f oi ≤ 4) (hcj : cls hh f oj ≤ 4)
    (h1 : PStep P hh f call ops b i oi wi vi ei st s1) (h2 : PStep P hh f call ops b j oj wj vj ej s1 s2) :
    ∃ s1', PStep P hh f call ops b j oj wj vj ej st s1' ∧ PStep P hh f call ops b i oi wi vi ei s1' s2 := by
  obtain ⟨a1, a2, a3⟩ := Oper.apart_spec hap
  obtain ⟨f1, o1⟩ := h1.fits
  obtain ⟨f2, o2⟩ := h2.fits
  have e1 := h1.eq
  have e2 := h2.eq
  subst e1
  subst e2
  simp only at o2
  obtain ⟨k1, k2, k3⟩ := Eff.comm (i := b + i) (j := b + j) (by omega) f1 f2 hcl o1 o2
  have nwi : cls hh f oj ≠ 0 → ∀ fr0 fr1, ei ≠ .wr fr0 fr1 := fun h0 fr0 fr1 e => by
    subst e
    have h4 : cls hh f oi = 4 := f1
    rw [h4, (clash_four h0 hcj).1] at hcl
    cases hcl
  have nwj : cls hh f oi ≠ 0 → ∀ fr0 fr1, ej ≠ .wr fr0 fr1 := fun h0 fr0 fr1 e => by
    subst e
    have h4 : cls hh f oj = 4 := f2
    rw [h4, (clash_four h0 hci).2] at hcl
    cases hcl
  refine ⟨⟨putT st.tmps oj.dst vj, ej.app (b + j) st.fr⟩, ⟨?_, fun hw => ?_, h2.skip, rfl⟩, ⟨?_, fun hw => ?_, h1.skip, ?_⟩⟩
  · have := h2.wanted
    simp only at this
    rwa [gP_put a1] at this
  · obtain ⟨q1, q2, q3, q4⟩ := h2.run hw
    have hev : ∀ x ∈ oj.op.operands, (⟨putT st.tmps oi.dst vi, ei.app (b + i) st.fr⟩ : St).ev x = st.ev x := ev_put (ops := ops) a1
    refine ⟨by rw [← readsOld_congr hev]; exact q1, q2, k1, fun fr' hr ho K' r' hk => ?_⟩
    rw [← opK_congr (T' := putT st.tmps oi.dst vi) hcj (ev_put (ops := ops) a1)]
    refine q4 fr' (fun h0 x hx => ?_) ho K' r' hk
    have hp := readsOld_rd q1 x hx
    have hb := (Eff.rd (Nat.le_add_right b i) o1 (nwi h0) hp).2
    refine Rd.trans hb ?_
    rw [hev x (readOps_operands hx)]
    exact hr h0 x hx
  · simp only
    rw [gP_put a3]; exact h1.wanted
  · obtain ⟨q1, q2, q3, q4⟩ := h1.run hw
    have hev : ∀ x ∈ oi.op.operands, (⟨putT st.tmps oj.dst vj, ej.app (b + j) st.fr⟩ : St).ev x = st.ev x := ev_put (ops := ops) a3
    refine ⟨by rw [readsOld_congr hev]; exact q1, q2, k2, fun fr' hr ho K' r' hk => ?_⟩
    rw [opK_congr (T := st.tmps) hci (ev_put (ops := ops) a3)]
    refine q4 fr' (fun h0 x hx => ?_) ho K' r' hk
    have hp := readsOld_rd q1 x hx
    have hb := (Eff.rd (Nat.le_add_right b j) k1 (nwj h0) hp).1
    refine Rd.trans hb ?_
    have := hr h0 x hx
    rwa [hev x (readOps_operands hx)] at this
  · simp only
    rw [putT_comm _ _ _ a2, k3]

def AnyP (P : Program) (hh : Hint) (f : FuncId) (call : CallF R) (ops : Array Oper) (b : Nat) (F : St → Prop) : Nat → Array Bool → St → Prop
  | 0, listed, st => Region.ready .any ops listed = [] ∧ F st
  | n + 1, listed, st => (Region.ready .any ops listed = [] → F st) ∧
    ∀ i ∈ Region.ready .any ops listed, ∃ o w v e st', ops[i]? = some o ∧ PStep P hh f call ops b i o w v e st st' ∧ AnyP P hh f call ops b F n (listed.setIfInBounds i true) st'

/-- One step, in the model. -/
theorem PStep.wpOp (hE : EqOK P hh) (hC : CallOK P call) {i : Nat} {o : Oper} {x : Bool} {v : PV} {e : Eff} {st st' : St} (h : PStep P hh f call ops b i o x v e st st') (hi : ops[i]? = some o) {E : Entry} {m : Mem} {g : Gh} {a : Act} {w : World} (hs : SRel E m g st a w) (r : R) {ro : Option Nat} {nf : Nat}
    {K : Act → World → Prop} {Q : Exit → Act → World → Prop} (hK : ∀ m g a w, SRel E m g st' a w → K a w) : wpOpIn (FF ro) nf P ops Q i K a w := by
  unfold Go.wpOpIn
  simp only [hi]
  have hw := gP_rel hs h.wanted
  have eq := h.eq
  subst eq
  cases x with
  | false =>
    rw [if_neg (by rw [hw]; simp)]
    obtain ⟨rfl, rfl⟩ := h.skip rfl
    exact ⟨fun _ _ => trivial, hK m g _ w (hs.put hs.f (Mem.le_refl _) (Gh.le_refl _) (pv_skip m g) o.dst)⟩
  | true =>
    rw [if_pos hw]
    obtain ⟨q1, q2, q3, q4⟩ := h.run rfl
    classical
    have hrun := q4 st.fr (fun _ x _ d k _ _ _ => rfl) q3 (fun v' fr' => if v' = v ∧ fr' = e.app (b + i) st.fr then some r else none) r (by simp)
    refine opK_wp hE hC hs hrun fun c v' m' g' fr' w' p1 p2 p3 p4 p5 => ?_
    by_cases hx : v' = v ∧ fr' = e.app (b + i) st.fr
    · obtain ⟨rfl, rfl⟩ := hx
      exact hK m' g' _ w' (hs.put p3 p4 p5 p2 o.dst)
    · rw [if_neg hx] at p1; cases p1

theorem anyP_wp (hE : EqOK P hh) (hC : CallOK P call) {F : St → Prop} (r : R) {E : Entry} {ro : Option Nat} {nf : Nat} {Q : Exit → Act → World → Prop} (hQ : ∀ m g st a w, SRel E m g st a w → F st → Q .normal a w) :
    ∀ (n : Nat) (listed : Array Bool) (m : Mem) (g : Gh) (st : St) (a : Act) (w : World), SRel E m g st a w → AnyP P hh f call ops b F n listed st → wpAnyIn (FF ro) nf P .any ops Q n listed a w
  | 0, listed, m, g, st, a, w, hs, h => ⟨h.1, hQ m g st a w hs h.2⟩
  | n + 1, listed, m, g, st, a, w, hs, h => ⟨fun h0 => hQ m g st a w hs (h.1 h0), fun i hi => by
      obtain ⟨o, x, v, e, st', ho, hp, hn⟩ := h.2 i hi
      exact hp.wpOp hE hC ho hs r fun m g a w hs' => anyP_wp hE hC r hQ n _ m g st' a w hs' hn⟩

/-! ### who waits for whom -/
inductive Reach (ops : Array Oper) : Nat → Nat → Prop
  | here {j i : Nat} {o : Oper} {e : Edge} : ops[j]? = some o → e ∈ o.after → Region.binds .any e = true → e.on = i → Reach ops j i
  | there {j i : Nat} {o : Oper} {e : Edge} : ops[j]? = some o → e ∈ o.after → Region.binds .any e = true → Reach ops e.on i → Reach ops j i

def Closed (ops : Array Oper) (listed : Array Bool) : Prop := ∀ j o, ops[j]? = some o → listed.getD j false = true → ∀ e ∈ o.after, Region.binds .any e = true → listed.getD e.on false = true

theorem Closed.reach {listed : Array Bool} (hc : Closed ops listed) {j i : Nat} (h : Reach ops j i) : listed.getD j false = true → listed.getD i false = true := by
  induction h with
  | here ho he hb e => intro hj; subst e; exact hc _ _ ho hj _ he hb
  | there ho he hb _ ih => intro hj; exact ih (hc _ _ ho hj _ he hb)

theorem ready_reach {listed : Array Bool} (hc : Closed ops listed) {j i : Nat} (hj : j ∈ Region.ready .any ops listed) (h : Reach ops j i) : listed.getD i false = true := by
  obtain ⟨_, o', ho', hall⟩ := mem_ready.1 hj
  cases h with
  | here ho he hb e => rw [ho'] at ho; cases ho; subst e; exact hall _ he hb
  | there ho he hb h => rw [ho'] at ho; cases ho; exact hc.reach h (hall _ he hb)

theorem getD_false_true {listed : Array Bool} {i : Nat} (h : listed.getD i true = false) : listed.getD i false = false := by
  rcases Nat.lt_or_ge i listed.size with h' | h'
  · simp [h'] at h ⊢; exact h
  · simp [Array.getElem?_eq_none h'] at h

theorem Closed.set {listed : Array Bool} (hc : Closed ops listed) {i : Nat} (hi : i ∈ Region.ready .any ops listed) : Closed ops (listed.setIfInBounds i true) := fun j o ho hj e he hb => by
  obtain ⟨_, o', ho', hall⟩ := mem_ready.1 hi
  by_cases hji : i = j
  · subst hji
    rw [ho'] at ho; cases ho
    exact getD_set_true (hall e he hb)
  · rw [getD_set_ne false hji] at hj
    exact getD_set_true (hc j o ho hj e he hb)

theorem anyP_first {F : St → Prop} {i : Nat} {oi : Oper} {x : Bool} {v : PV} {ef : Eff} (hi : ops[i]? = some oi) (hc4 : ∀ (j : Nat) (o : Oper), ops[j]? = some o → cls hh f o ≤ 4) :
    ∀ (fuel : Nat) (listed : Array Bool) (st st1 : St), Closed ops listed →
      (∀ j oj, ops[j]? = some oj → j ≠ i → listed.getD j true = false → ((∀ e ∈ oj.after, Region.binds .any e = true → e.on ≠ i) → oi.apart ops oj = true) ∧ (clash (cls hh f oi) (cls hh f oj) = true → Reach ops j i)) →
      i ∈ Region.ready .any ops listed → PStep P hh f call ops b i oi x v ef st st1 →
      AnyP P hh f call ops b F fuel (listed.setIfInBounds i true) st1 → AnyP P hh f call ops b F (fuel + 1) listed st := by
  intro fuel
  induction fuel with
  | zero =>
    intro listed st st1 hcl _ hr hy H
    refine ⟨fun h => (by rw [h] at hr; cases hr), fun j hj => ?_⟩
    by_cases hji : j = i
    · subst hji; exact ⟨oi, x, v, ef, st1, hi, hy, H⟩
    · have := ready_mono hj hji
      rw [H.1] at this
      cases this
  | succ fuel ih =>
    intro listed st st1 hcl hfree hr hy H
    refine ⟨fun h => (by rw [h] at hr; cases hr), fun j hj => ?_⟩
    by_cases hji : j = i
    · subst hji; exact ⟨oi, x, v, ef, st1, hi, hy, H⟩
    · obtain ⟨oj, xj, vj, ej, s2, hoj, hstep, hrest⟩ := H.2 j (ready_mono hj hji)
      obtain ⟨hjun, oj', hoj', hall⟩ := mem_ready.1 hj
      rw [hoj] at hoj'; cases hoj'
      have hiun := getD_false_true (mem_ready.1 hr).1
      have hnot : ∀ e ∈ oj.after, Region.binds .any e = true → e.on ≠ i := fun e he hb heq => by
        have h1 := hall e he hb
        rw [heq, hiun] at h1
        cases h1
      obtain ⟨g1, g2⟩ := hfree j oj hoj hji hjun
      have hncl : clash (cls hh f oi) (cls hh f oj) = false := by
        cases hc : clash (cls hh f oi) (cls hh f oj) with
        | false => rfl
        | true =>
          have := ready_reach hcl hj (g2 hc)
          rw [hiun] at this; cases this
      obtain ⟨s1', p1, p2⟩ := PStep.comm (Ne.symm hji) (g1 hnot) hncl (hc4 i oi hi) (hc4 j oj hoj) hy hstep
      refine ⟨oj, xj, vj, ej, s1', hoj, p1, ih (listed.setIfInBounds j true) s1' s2 (hcl.set hj) (fun k ok hk hki hun => ?_) (ready_mono hr (Ne.symm hji)) p2 ?_⟩
      · refine hfree k ok hk hki ?_
        by_cases hjk : j = k
        · subst hjk; exact hjun
        · rw [getD_set_ne true hjk] at hun; exact hun
      · rw [Array.setIfInBounds_comm _ _ hji]
        exact hrest

end
end Go.PM

set_option linter.unusedSectionVars false
namespace Go.PM
variable [LoopCodes]
variable {R : Type} {P : Program}

section
variable {hh : Hint} {f : FuncId} {call : CallF R} {ops : Array Oper} {b : Nat}

/-- What a call hands over. -/
def CallArr (call : CallF R) : Prop :=
  ∀ f args (K : PV → Option LB → Frames → Option R) r, call.fn f args [] K = some r → ∃ v mv fr', K v mv fr' = some r ∧ ∀ lb, mv = some lb → lb ≠ .none ∧ ∀ sz n, lb ≠ .tok sz n

theorem anyP_lex (hD : CallDet call) (hT : CallArr call) (hc4 : ∀ (j : Nat) (o : Oper), ops[j]? = some o → cls hh f o ≤ 4) (hcl : ∀ (i j : Nat) (p o : Oper), i < j → ops[i]? = some p → ops[j]? = some o → clash (cls hh f p) (cls hh f o) = true → Reach ops j i)
    {K : St → Option R} {r : R} : ∀ (l : List Oper) (k : Nat) (listed : Array Bool) (st : St), (∀ j, l[j]? = ops[k + j]?) → Region.lexFrom .any ops l.length k listed = true → Closed ops listed → (∀ m, m < k → listed.getD m true = true) →
    pmOps P hh f call ops (some b) l k st K = some r → AnyP P hh f call ops b (fun s => K s = some r) l.length listed st
  | [], k, listed, st, _, hB, _, _, h => ⟨by simpa [Region.lexFrom] using hB, h⟩
  | o :: l, k, listed, st, hl, hB, hcd, hlt, h => by
    have h0 : ops[k]? = some o := by simpa using (hl 0).symm
    simp only [List.length_cons, Region.lexFrom, Bool.and_eq_true] at hB
    obtain ⟨⟨hr, hf⟩, hB'⟩ := hB
    have hr' : k ∈ Region.ready .any ops listed := by simpa using hr
    have hl' : ∀ j, l[j]? = ops[k + 1 + j]? := fun j => by have := hl (j + 1); simpa [Nat.add_assoc, Nat.add_comm 1 j] using this
    have hlt' : ∀ m, m < k + 1 → (listed.setIfInBounds k true).getD m true = true := fun m hm => by
      by_cases e : k = m
      · subst e
        rcases Nat.lt_or_ge k listed.size with h' | h'
        · simp [h']
        · simp [Array.getElem?_eq_none h', h']
      · rw [getD_set_ne true e]; exact hlt m (by omega)
    have hfree : ∀ j oj, ops[j]? = some oj → j ≠ k → listed.getD j true = false → ((∀ e ∈ oj.after, Region.binds .any e = true → e.on ≠ k) → o.apart ops oj = true) ∧ (clash (cls hh f o) (cls hh f oj) = true → Reach ops j k) := fun j oj hj hne hun =>
      ⟨fun hno => Region.free_spec h0 hf j oj hj hne hun hno, fun hc => by
        rcases Nat.lt_or_gt_of_ne hne with hlt0 | hgt
        · have := hlt j hlt0
          rw [hun] at this; cases this
        · exact hcl k j o oj hgt h0 hj hc⟩
    have fin : ∀ x v e st', PStep P hh f call ops b k o x v e st st' → pmOps P hh f call ops (some b) l (k + 1) st' K = some r → AnyP P hh f call ops b (fun s => K s = some r) (l.length + 1) listed st := fun x v e st' hp hk =>
      anyP_first h0 hc4 l.length listed st st' hcd hfree hr' hp (anyP_lex hD hT hc4 hcl l (k + 1) _ st' hl' hB' (hcd.set hr') hlt' hk)
    simp only [pmOps] at h
    obtain ⟨w, hw, hA, hBB⟩ := guardK_det h
    cases w with
    | true =>
      have h1 := hA rfl
      split at h1 <;> first | (cases h1; done) | skip
      rename_i hro
      obtain ⟨v, e, h2, h3⟩ := opK_eff hD hT (hc4 k o h0) hro h1
      exact fin true v e _ ⟨hw, fun _ => ⟨hro, h3⟩, (fun e => by cases e), rfl⟩ h2
    | false =>
      have h1 := hBB rfl
      exact fin false skipP .keep _ ⟨hw, (fun e => by cases e), fun _ => ⟨rfl, rfl⟩, rfl⟩ h1

/-! ### who waits: the bits of the kit's table -/
theorem foldBits (acc : Array Nat) : ∀ (l : List Edge) (s i : Nat), (l.foldl (fun s e => if Region.binds .any e then s ||| 2 ^ e.on ||| acc.getD e.on 0 else s) s).testBit i = true →
    s.testBit i = true ∨ ∃ e ∈ l, Region.binds .any e = true ∧ (e.on = i ∨ (acc.getD e.on 0).testBit i = true)
  | [], s, i, h => .inl h
  | e :: l, s, i, h => by
    simp only [List.foldl_cons] at h
    rcases foldBits acc l _ i h with h1 | ⟨e', he', h2⟩
    · split at h1
      · rename_i hb
        simp only [Nat.testBit_or, Bool.or_eq_true, Nat.testBit_two_pow, decide_eq_true_eq] at h1
        rcases h1 with (h1 | h1) | h1
        · exact .inl h1
        · exact .inr ⟨e, by simp, hb, .inl h1⟩
        · exact .inr ⟨e, by simp, hb, .inr h1⟩
      · exact .inl h1
    · exact .inr ⟨e', by simp [he'], h2⟩

theorem before_go : ∀ (l : List Oper) (acc : Array Nat), (∀ j, l[j]? = ops[acc.size + j]?) → (∀ j i, (acc.getD j 0).testBit i = true → Reach ops j i) →
    ∀ j i, ((l.foldl (fun acc o => acc.push (o.after.foldl (fun s e => if Region.binds .any e then s ||| 2 ^ e.on ||| acc.getD e.on 0 else s) 0)) acc).getD j 0).testBit i = true → Reach ops j i
  | [], acc, _, hacc, j, i, h => hacc j i h
  | o :: l, acc, hl, hacc, j, i, h => by
    simp only [List.foldl_cons] at h
    refine before_go l _ (fun j => ?_) (fun j i hb => ?_) j i h
    · have := hl (j + 1)
      simpa [Nat.add_assoc, Nat.add_comm 1 j] using this
    · have h0 : ops[acc.size]? = some o := by simpa using (hl 0).symm
      by_cases e : j = acc.size
      · subst e
        simp only [Array.getD_eq_getD_getElem?, Array.getElem?_push_size, Option.getD_some] at hb
        rcases foldBits acc o.after.toList 0 i (by rw [Array.foldl_toList]; simpa [Array.getD_eq_getD_getElem?] using hb) with h1 | ⟨e, he, h2, h3⟩
        · simp at h1
        · have he' : e ∈ o.after := by simpa using he
          rcases h3 with h3 | h3
          · exact .here h0 he' h2 h3
          · exact .there h0 he' h2 (hacc _ _ h3)
      · rcases Nat.lt_or_gt_of_ne e with h' | h'
        · have : (acc.push (o.after.foldl (fun s e => if Region.binds .any e then s ||| 2 ^ e.on ||| acc.getD e.on 0 else s) 0)).getD j 0 = acc.getD j 0 := by
            simp only [Array.getD_eq_getD_getElem?]
            rw [Array.getElem?_push_lt h', Array.getElem?_eq_getElem h']
          rw [this] at hb
          exact hacc j i hb
        · have : (acc.push (o.after.foldl (fun s e => if Region.binds .any e then s ||| 2 ^ e.on ||| acc.getD e.on 0 else s) 0)).getD j 0 = 0 := by
            simp only [Array.getD_eq_getD_getElem?]
            rw [Array.getElem?_eq_none (by simp; omega)]
            rfl
          rw [this] at hb
          simp at hb

theorem before_spec {j i : Nat} (h : ((Region.before ops).getD j 0).testBit i = true) : Reach ops j i := by
  unfold Region.before at h
  rw [← Array.foldl_toList] at h
  exact before_go ops.toList #[] (by simp) (fun j i h => by simp at h) j i h

theorem drawOK_spec (h : drawOK hh f ops = true) : Region.lexB .any ops = true ∧ (∀ (j : Nat) (o : Oper), ops[j]? = some o → cls hh f o ≤ 4) ∧
    (∀ (i j : Nat) (p o : Oper), i < j → ops[i]? = some p → ops[j]? = some o → clash (cls hh f p) (cls hh f o) = true → Reach ops j i) := by
  unfold drawOK at h
  simp only [Bool.and_eq_true] at h
  obtain ⟨⟨h1, h2⟩, h3⟩ := h
  refine ⟨h1, fun j o ho => ?_, fun i j p o hij hp ho hc => ?_⟩
  · have := List.all_eq_true.1 h2 o (by rw [← Array.getElem?_toList] at ho; exact List.mem_of_getElem? ho)
    simpa using this
  · rw [← Array.getElem?_toList] at hp ho
    have h4 := List.all_eq_true.1 h3 (o, j) (List.mem_of_getElem? (i := j) (by rw [List.getElem?_zipIdx, ho]; simp))
    simp only at h4
    have h5 := List.all_eq_true.1 h4 (p, i) (List.mem_of_getElem? (i := i) (by rw [List.getElem?_zipIdx, List.getElem?_take, if_pos hij, hp]; simp))
    simp only [hc, Bool.not_true, Bool.false_or] at h5
    exact before_spec h5

theorem FRel.drew {E : Entry} {m : Mem} {g : Gh} {fr : Frames} {w : World} (h : FRel E m g fr w) (n : Nat) : FRel E m g fr { w with drawn := n } :=
  ⟨⟨fun b o c hc => (World.cell?_of_block (w := w) rfl).trans (h.p.mem b o c hc), h.p.len, fun d k lb hb => by
      obtain ⟨l, g0, hr⟩ := h.p.blk d k lb hb
      exact ⟨l, g0, hr.kept (Mem.le_refl m) (Gh.le_refl _) rfl fun b _ => rfl⟩, h.p.excl, h.p.dis, h.p.ghost⟩,
    ⟨h.step.le, h.step.new, h.step.os, h.step.tape, h.step.output, h.step.size, h.step.block⟩, h.gt, h.shape, h.old, h.kp⟩

theorem drawSound (hm : P.follows .mixedOrders = true) (hE : EqOK P hh) (hC : CallOK P call) (hD : CallDet call) (hT : CallArr call) : DrawSound P hh f call := fun E ops id K r m g st a w Q ro nf hd hs h hQ => by
  obtain ⟨h1, h2, h3⟩ := drawOK_spec hd
  simp only [Region.lexB, Bool.and_eq_true] at h1
  have hcd : Closed ops (Array.replicate ops.size false) := fun j o ho hj => by
    rcases Nat.lt_or_ge j ops.size with h' | h'
    · simp [h'] at hj
    · simp [h'] at hj
  have hlex := anyP_lex (b := (st.fr.headD []).length) hD hT h2 h3 ops.toList 0 (Array.replicate ops.size false) st (by simp) (by simpa using h1.2) hcd (fun m hm => by omega) h
  have hs' : SRel E m g st a { w with drawn := w.drawn + 1 } := ⟨hs.f.drew _, hs.len, hs.tmps, hs.dfr⟩
  refine wpIn_region_any hm ?_
  have := anyP_wp hE hC r (ro := ro) (nf := nf) (Q := Q) (fun m g st a w hs hK => hQ m g st a w hs hK) _ _ m g st a _ hs' hlex
  simpa using this

end
end Go.PM

set_option linter.unusedSectionVars false
namespace Go.PM
variable [LoopCodes]
variable {R : Type} {P : Program}

theorem allocK_det {fr : Frames} {ix : Nat} {b : LB} {K : Frames → Option R} {r : R} (h : allocK fr ix b K = some r) : ∃ fr', K fr' = some r ∧ ∀ (K' : Frames → Option R) r', K' fr' = some r' → allocK fr ix b K' = some r' := by
  obtain ⟨h1, h2, h3⟩ := allocK_eff h
  exact ⟨_, h2, fun K' r' hk => h3 fr h1 K' r' hk⟩
theorem allocToks_det {b : Nat} : ∀ {ts : List (Nat × Nat)} {fr : Frames} {cs : List SV} {ix : Nat} {K : List SV → Frames → Option R} {r : R}, allocToks fr b cs ix ts K = some r → ∃ cs' fr', K cs' fr' = some r ∧ ∀ (K' : List SV → Frames → Option R) r', K' cs' fr' = some r' → allocToks fr b cs ix ts K' = some r'
  | [], fr, cs, ix, K, r, h => ⟨cs, fr, h, fun K' r' hk => hk⟩
  | (i, sz) :: ts, fr, cs, ix, K, r, h => by
    simp only [allocToks] at h
    split at h <;> first | (cases h; done) | skip
    rename_i hi
    split at h <;> first | (cases h; done) | skip
    rename_i hz
    obtain ⟨fr1, h1, h2⟩ := allocK_det h
    obtain ⟨cs', fr', h3, h4⟩ := allocToks_det h1
    exact ⟨cs', fr', h3, fun K' r' hk => by simp only [allocToks, hi, hz]; exact h2 _ r' (h4 K' r' hk)⟩
theorem zero1_det {t : TypeId} {K : RV → Option R} {r : R} (h : zero1 P t K = some r) : ∃ v, K v = some r ∧ ∀ (K' : RV → Option R) r', K' v = some r' → zero1 P t K' = some r' := by
  unfold zero1 at h
  split at h <;> first | (cases h; done) | skip
  rename_i i hi
  split at h <;> first | (cases h; done) | skip
  rename_i v hz
  split at h <;> first | (cases h; done) | skip
  rename_i hc
  exact ⟨_, h, fun K' r' hk => by simp only [zero1, hi, hz, hc]; exact hk⟩
theorem loadK_det {fr : Frames} {t : TypeId} {x : PV} {K : PV → Option R} {r : R} (h : loadK P fr t x K = some r) : ∃ v, K v = some r ∧ ∀ (K' : PV → Option R) r', K' v = some r' → loadK P fr t x K' = some r' := by
  obtain ⟨v, h1, h2⟩ := loadK_loc h
  exact ⟨v, h1, fun K' r' hk => h2 fr (fun d k _ _ _ => rfl) K' r' hk⟩
theorem capK_det {fr : Frames} : ∀ {vs : List PV} {K : List CV → Option R} {r : R}, capK fr vs K = some r → ∃ cs, K cs = some r ∧ ∀ (K' : List CV → Option R) r', K' cs = some r' → capK fr vs K' = some r'
  | [], K, r, h => ⟨[], h, fun K' r' hk => hk⟩
  | v :: vs, K, r, h => by
    simp only [capK] at h
    split at h <;> first | (cases h; done) | skip
    all_goals
      obtain ⟨cs, h1, h2⟩ := capK_det h
      exact ⟨_, h1, fun K' r' hk => h2 _ r' hk⟩
theorem freezeK_det : ∀ {vs : List PV} {fr : Frames} {K : Frames → List PV → Option R} {r : R}, freezeK fr vs K = some r → ∃ fr' vs', K fr' vs' = some r ∧ ∀ (K' : Frames → List PV → Option R) r', K' fr' vs' = some r' → freezeK fr vs K' = some r'
  | [], fr, K, r, h => ⟨fr, [], h, fun K' r' hk => hk⟩
  | v :: vs, fr, K, r, h => by
    unfold freezeK at h
    split at h
    · split at h <;> first | (cases h; done) | skip
      · rename_i cells hlb
        obtain ⟨ws, h1, h2⟩ := sealAll_det h
        obtain ⟨fr', vs', h3, h4⟩ := freezeK_det h1
        exact ⟨fr', _, h3, fun K' r' hk => by simp only [freezeK, hlb]; exact h2 _ r' (h4 _ r' hk)⟩
      · rename_i sz ws hlb
        obtain ⟨fr', vs', h3, h4⟩ := freezeK_det h
        exact ⟨fr', _, h3, fun K' r' hk => by simp only [freezeK, hlb]; exact h4 _ r' hk⟩
    · rename_i hn
      obtain ⟨fr', vs', h3, h4⟩ := freezeK_det h
      exact ⟨fr', _, h3, fun K' r' hk => by
        unfold freezeK
        split
        · exact absurd rfl (hn _ _)
        · exact h4 _ r' hk⟩
theorem clearK_det {fr : Frames} {t : TypeId} {x : PV} {K : PV → Frames → Option R} {r : R} (h : clearK P fr t x K = some r) : ∃ v fr', K v fr' = some r ∧ ∀ (K' : PV → Frames → Option R) r', K' v fr' = some r' → clearK P fr t x K' = some r' := by
  unfold clearK at h
  split at h <;> first | (cases h; done) | skip
  rename_i e hd
  split at h <;> first | (cases h; done) | skip
  split at h <;> first | (cases h; done) | skip
  rename_i sz rows hlb
  obtain ⟨z, h1, h2⟩ := zeroT_det h
  split at h1 <;> first | (cases h1; done) | skip
  rename_i hc
  exact ⟨_, _, h1, fun K' r' hk => by simp only [clearK, hd, hlb]; exact h2 _ r' (by simp only [hc]; exact hk)⟩

theorem builtinK_det {hh : Hint} {f : FuncId} {o : Oper} {bi : Builtin} {ts : List TypeId} {args : List PV} {ix : Nat} {fr : Frames} {K : PV → Frames → Option R} {r : R} (h : builtinK P hh f o bi ts args ix fr K = some r) :
    ∃ v fr', K v fr' = some r ∧ ∀ (K' : PV → Frames → Option R) r', K' v fr' = some r' → builtinK P hh f o bi ts args ix fr K' = some r' := by
  cases bi
  case clear =>
    simp only [builtinK] at h
    split at h <;> first | (cases h; done) | skip
    obtain ⟨v, fr', h1, h2⟩ := clearK_det h
    exact ⟨v, fr', h1, fun K' r' hk => h2 K' r' hk⟩
  case append =>
    simp only [builtinK] at h
    split at h <;> first | (cases h; done) | skip
    rename_i t t' s x
    split at h <;> first | (cases h; done) | skip
    rename_i e ht hd
    split at h <;> first | (cases h; done) | skip
    rename_i hz
    obtain ⟨v, fr1, h1, h2⟩ := appendK_det h
    exact ⟨v, _, h1, fun K' r' hk => by simp only [builtinK, ht, hd, hz]; exact h2 K' r' hk⟩
  case len =>
    obtain ⟨v, e, h1, h2, h3, h4⟩ := builtin_eff (bi := .len) rfl (by show 1 ≤ 4; omega) (fun e => by cases e) h
    exact ⟨v, _, h1, fun K' r' hk => h4 fr (fun _ x _ d k _ _ _ => rfl) h3 K' r' hk⟩
  case min =>
    obtain ⟨v, e, h1, h2, h3, h4⟩ := builtin_eff (bi := .min) rfl (by show 0 ≤ 4; omega) (fun e => by cases e) h
    exact ⟨v, _, h1, fun K' r' hk => h4 fr (fun _ x _ d k _ _ _ => rfl) h3 K' r' hk⟩
  case max =>
    obtain ⟨v, e, h1, h2, h3, h4⟩ := builtin_eff (bi := .max) rfl (by show 0 ≤ 4; omega) (fun e => by cases e) h
    exact ⟨v, _, h1, fun K' r' hk => h4 fr (fun _ x _ d k _ _ _ => rfl) h3 K' r' hk⟩
  all_goals cases h

theorem viewK_det {fr : Frames} : ∀ {args : List PV} {K : List PV → Option R} {r : R}, viewK fr args K = some r → ∃ vs, K vs = some r ∧ ∀ (K' : List PV → Option R) r', K' vs = some r' → viewK fr args K' = some r'
  | [], K, r, h => ⟨[], h, fun K' r' hk => hk⟩
  | v :: args, K, r, h => by
    unfold viewK at h
    split at h <;> first | (cases h; done) | skip
    · obtain ⟨vs, h1, h2⟩ := viewK_det h
      exact ⟨_, h1, fun K' r' hk => by unfold viewK; exact h2 _ r' hk⟩
    · split at h <;> first | (cases h; done) | skip
      rename_i sz rows hlb
      obtain ⟨vs, h1, h2⟩ := viewK_det h
      exact ⟨_, h1, fun K' r' hk => by unfold viewK; simp only [hlb]; exact h2 _ r' hk⟩
theorem takeK_det {sl : Bool} {ix : Nat} {v : PV} {b : LB} {fr : Frames} {K : PV → Frames → Option R} {r : R} (h : takeK sl ix v b fr K = some r) : ∃ v' fr', K v' fr' = some r ∧ ∀ (K' : PV → Frames → Option R) r', K' v' fr' = some r' → takeK sl ix v b fr K' = some r' := by
  cases sl with
  | false =>
    simp only [takeK] at h
    obtain ⟨fr', h3, h4⟩ := allocK_det h
    exact ⟨_, _, h3, fun K' r' hk => by simp only [takeK]; exact h4 _ r' hk⟩
  | true =>
    simp only [takeK] at h
    split at h <;> first | (cases h; done) | skip
    obtain ⟨fr', h3, h4⟩ := allocK_det h
    exact ⟨_, _, h3, fun K' r' hk => by simp only [takeK]; exact h4 _ r' hk⟩
theorem sealOwn_det {v : PV} {fr : Frames} {K : PV → Frames → Option R} {r : R} (h : sealOwn v fr K = some r) : ∃ v' fr', K v' fr' = some r ∧ ∀ (K' : PV → Frames → Option R) r', K' v' fr' = some r' → sealOwn v fr K' = some r' := by
  unfold sealOwn at h
  split at h
  · split at h <;> first | (cases h; done) | skip
    rename_i sz rows hlb
    exact ⟨_, _, h, fun K' r' hk => by simp only [sealOwn, hlb]; exact hk⟩
  · rename_i hn
    refine ⟨_, _, h, fun K' r' hk => ?_⟩
    unfold sealOwn
    split
    · exact absurd rfl (hn _ _ _)
    · exact hk
theorem callK_det {vw sl : Bool} {call : CallF R} (hC : CallDet call) {base : Option Nat} {f : FuncId} {args : List PV} {ix : Nat} {fr : Frames} {K : PV → Frames → Option R} {r : R} (h : callK vw sl call base f args ix fr K = some r) :
    ∃ v fr', K v fr' = some r ∧ ∀ (K' : PV → Frames → Option R) r', K' v fr' = some r' → callK vw sl call base f args ix fr K' = some r' := by
  unfold callK at h
  split at h
  · rename_i hro
    obtain ⟨v, mv, fr1, h1, h2⟩ := hC.1 _ _ _ _ _ h
    split at h1 <;> first | (cases h1; done) | skip
    split at h1
    · exact ⟨_, _, h1, fun K' r' hk => by simp only [callK, hro]; exact h2 _ r' hk⟩
    · obtain ⟨v', fr', h3, h4⟩ := takeK_det h1
      exact ⟨_, _, h3, fun K' r' hk => by simp only [callK, hro]; exact h2 _ r' (h4 _ r' hk)⟩
  · rename_i hro
    split at h
    · cases h
    split at h
    · obtain ⟨vs, k1, k2⟩ := viewK_det h
      obtain ⟨v, mv, fr1, h1, h2⟩ := hC.1 _ _ _ _ _ k1
      split at h1 <;> first | (cases h1; done) | skip
      rename_i hfl
      exact ⟨_, _, h1, fun K' r' hk => by simp only [callK, hro]; exact k2 _ r' (h2 _ r' (by simp only [hfl]; exact hk))⟩
    · obtain ⟨v, mv, fr1, h1, h2⟩ := hC.1 _ _ _ _ _ h
      split at h1
      · split at h1
        · obtain ⟨v', fr', h3, h4⟩ := sealOwn_det h1
          exact ⟨_, _, h3, fun K' r' hk => by simp only [callK, hro]; exact h2 _ r' (h4 _ r' hk)⟩
        · exact ⟨_, _, h1, fun K' r' hk => by simp only [callK, hro]; exact h2 _ r' hk⟩
      · obtain ⟨v', fr', h3, h4⟩ := takeK_det h1
        exact ⟨_, _, h3, fun K' r' hk => by simp only [callK, hro]; exact h2 _ r' (h4 _ r' hk)⟩

theorem fn_det {cv : List CV} {f : FuncId} {K : PV → Option R} {r : R} (h : (match allRo cv with
      | some vs => K (.ro (.fn f vs))
      | none => K (.s (.fn f cv))) = some r) : ∃ v, K v = some r ∧ ∀ (K' : PV → Option R) r', K' v = some r' → (match allRo cv with
      | some vs => K' (.ro (.fn f vs))
      | none => K' (.s (.fn f cv))) = some r' := by
  split at h
  · rename_i vs hv; exact ⟨_, h, fun K' r' hk => by first | exact hk | (simp only [hv]; exact hk)⟩
  · rename_i hv; exact ⟨_, h, fun K' r' hk => by first | exact hk | (simp only [hv]; exact hk)⟩

end Go.PM

set_option linter.unusedSectionVars false
namespace Go.PM
variable [LoopCodes]
variable {R : Type} {P : Program}

theorem execK_det {hh : Hint} {f : FuncId} {o : Oper} {ix : Nat} {st : St} {K : PV → Frames → Option R} {r : R} (h : execK P hh f o ix st K = some r) :
    ∃ v fr', K v fr' = some r ∧ ∀ (K' : PV → Frames → Option R) r', K' v fr' = some r' → execK P hh f o ix st K' = some r' := by
  obtain ⟨dst, op, type, pos, after, guard⟩ := o
  cases op
  case move x => exact ⟨_, _, h, fun K' r' hk => hk⟩
  case assign x => exact ⟨_, _, h, fun K' r' hk => hk⟩
  case pick c x y =>
    have h' : (wBool (st.ev c) fun t => match t with | true => K (st.ev x) st.fr | false => K (st.ev y) st.fr) = some r := h
    obtain ⟨t, h1, h2⟩ := wBool_det h'
    cases t with
    | true => exact ⟨_, _, h1, fun K' r' hk => h2 (fun t => match t with | true => K' (st.ev x) st.fr | false => K' (st.ev y) st.fr) r' hk⟩
    | false => exact ⟨_, _, h1, fun K' r' hk => h2 (fun t => match t with | true => K' (st.ev x) st.fr | false => K' (st.ev y) st.fr) r' hk⟩
  case alloc t =>
    simp only [execK] at h
    split at h
    · rename_i ht
      obtain ⟨z, h1, h2⟩ := zeroT_det h
      obtain ⟨fr', h3, h4⟩ := allocK_det h1
      exact ⟨_, _, h3, fun K' r' hk => by simp only [execK, ht]; exact h2 _ r' (h4 _ r' hk)⟩
    · rename_i hne
      obtain ⟨z, h1, h2⟩ := zeroT_det h
      obtain ⟨cs, fr1, h5, h6⟩ := allocToks_det h1
      obtain ⟨fr', h3, h4⟩ := allocK_det h5
      refine ⟨_, _, h3, fun K' r' hk => ?_⟩
      simp only [execK]
      exact h2 _ r' (h6 _ r' (h4 _ r' hk))
  case box t x =>
    simp only [execK] at h
    split at h
    · rename_i ha
      obtain ⟨v, h1, h2⟩ := wRo_det h
      split at h1 <;> first | (cases h1; done) | skip
      · exact ⟨_, _, h1, fun K' r' hk => by simp only [execK, ha]; exact h2 _ r' hk⟩
      · rename_i hn1 hn2
        refine ⟨_, _, h1, fun K' r' hk => ?_⟩
        simp only [execK, ha]
        refine h2 _ r' ?_
        split
        · exact absurd rfl (hn1 _)
        · exact absurd rfl (hn2 _)
        · exact hk
    · rename_i ha
      split at h <;> first | (cases h; done) | skip
      rename_i hs
      obtain ⟨fr', h3, h4⟩ := allocK_det h
      refine ⟨_, _, h3, fun K' r' hk => ?_⟩
      simp only [execK, hs]
      exact h4 _ r' hk
  case build t ps =>
    simp only [execK] at h
    split at h <;> first | (cases h; done) | skip
    rename_i hok
    obtain ⟨z, h1, h2⟩ := zeroT_det h
    obtain ⟨out, h3, h4⟩ := fillK_det h1
    obtain ⟨v, h5, h6⟩ := mkAgg_det h3
    exact ⟨_, _, h5, fun K' r' hk => by simp only [execK, hok]; exact h2 _ r' (h4 _ r' (h6 _ r' hk))⟩
  case buildSlice t len ps =>
    simp only [execK] at h
    split at h <;> first | (cases h; done) | skip
    rename_i e hd
    split at h
    · split at h <;> first | (cases h; done) | skip
      rename_i hps
      split at h <;> first | (cases h; done) | skip
      rename_i hok
      exact ⟨_, _, h, fun K' r' hk => by simp only [execK, hd, hps, hok]; exact hk⟩
    · rename_i hlen
      obtain ⟨z, h1, h2⟩ := zeroT_det h
      split at h1 <;> first | (cases h1; done) | skip
      rename_i hb
      obtain ⟨out, h3, h4⟩ := fillK_det h1
      obtain ⟨vs, h5, h6⟩ := sealAll_det h3
      split at h5 <;> first | (cases h5; done) | skip
      rename_i hok
      have fin : ∀ (K' : PV → Frames → Option R) r', (match hh.alloc f (dst.getD 0) with
            | 0 => K' (.ro (.vsl (sizeT P e) (chop (sizeT P e) len vs))) st.fr
            | _ => allocK st.fr ix (.arr (sizeT P e) (chop (sizeT P e) len vs)) fun fr' => K' (.s (.sl 0 ix 0 len)) fr') = some r' → execK P hh f ⟨dst, .buildSlice t len ps, type, pos, after, guard⟩ ix st K' = some r' := fun K' r' hk => by
        cases len with
        | zero => exact absurd rfl hlen
        | succ len =>
          simp only [execK, hd, hb] at h2 ⊢
          exact h2 _ r' (h4 _ r' (h6 _ r' (by simp only [hok]; exact hk)))
      cases ha : hh.alloc f (dst.getD 0) with
      | zero =>
        simp only [ha] at h5
        exact ⟨_, _, h5, fun K' r' hk => fin K' r' (by simp only [ha]; exact hk)⟩
      | succ n =>
        simp only [ha] at h5
        obtain ⟨fr', q2, q3⟩ := allocK_det h5
        refine ⟨_, _, q2, fun K' r' hk => fin K' r' ?_⟩
        simp only [ha]
        exact q3 (fun fr' => K' (.s (.sl 0 ix 0 len)) fr') r' hk
  case load t x =>
    obtain ⟨v, h1, h2⟩ := loadK_det (K := fun v => K v st.fr) h
    exact ⟨_, _, h1, fun K' r' hk => h2 (fun v => K' v st.fr) r' hk⟩
  case store t x y =>
    obtain ⟨fr1, h1, h2⟩ := storeK_det (K := fun fr => K skipP fr) h
    exact ⟨_, _, h1, fun K' r' hk => h2 (fun fr => K' skipP fr) r' hk⟩
  case nilCheck x =>
    simp only [execK] at h
    split at h <;> first | (cases h; done) | skip
    all_goals
      rename_i he
      exact ⟨_, _, h, fun K' r' hk => by simp only [execK, he]; exact hk⟩
  case binOp op t x y res =>
    obtain ⟨v, h1, h2⟩ := binOpK_det (K := fun v => K v st.fr) h
    exact ⟨_, _, h1, fun K' r' hk => h2 (fun v => K' v st.fr) r' hk⟩
  case unOp op t x =>
    obtain ⟨v, h1, h2⟩ := unOpK_det (K := fun v => K v st.fr) h
    exact ⟨_, _, h1, fun K' r' hk => h2 (fun v => K' v st.fr) r' hk⟩
  case convert src dst' x =>
    obtain ⟨v, h1, h2⟩ := convertK_det (K := fun v => K v st.fr) h
    exact ⟨_, _, h1, fun K' r' hk => h2 (fun v => K' v st.fr) r' hk⟩
  case makeFunc fn first cap =>
    cases fn <;> simp only [execK] at h <;> first | (cases h; done) | skip
    split at h <;> first | (cases h; done) | skip
    rename_i hfirst
    cases ha : hh.alloc f (dst.getD 0) with
    | zero =>
      simp only [ha] at h
      obtain ⟨fr', vs', h1, h2⟩ := freezeK_det h
      obtain ⟨cs, h3, h4⟩ := capK_det h1
      obtain ⟨v, h5, h6⟩ := fn_det (K := fun v => K v fr') h3
      exact ⟨_, _, h5, fun K' r' hk => by simp only [execK, hfirst, ha]; exact h2 _ r' (h4 _ r' (h6 (fun v => K' v fr') r' hk))⟩
    | succ n =>
      simp only [ha] at h
      obtain ⟨cs, h3, h4⟩ := capK_det h
      obtain ⟨v, h5, h6⟩ := fn_det (K := fun v => K v st.fr) h3
      exact ⟨_, _, h5, fun K' r' hk => by simp only [execK, hfirst, ha]; exact h4 _ r' (h6 (fun v => K' v st.fr) r' hk)⟩
  case makeMap t rr =>
    simp only [execK] at h
    split at h <;> first | (cases h; done) | skip
    obtain ⟨fr', h3, h4⟩ := allocK_det h
    exact ⟨_, _, h3, fun K' r' hk => h4 (fun fr' => K' (.s (.mp 0 ix)) fr') r' hk⟩
  case makeSlice t l c =>
    simp only [execK] at h
    split at h <;> first | (cases h; done) | skip
    rename_i e hd
    obtain ⟨k, n, h1, h2⟩ := wInt_det h
    obtain ⟨k', n', h3, h4⟩ := wInt_det h1
    split at h3 <;> first | (cases h3; done) | skip
    rename_i hc
    obtain ⟨z, h5, h6⟩ := zeroT_det h3
    obtain ⟨fr', h7, h8⟩ := allocK_det h5
    exact ⟨_, _, h7, fun K' r' hk => by simp only [execK, hd]; exact h2 _ r' (h4 _ r' (by simp only [hc]; exact h6 _ r' (h8 _ r' hk)))⟩
  case slice t x lo hi mx =>
    obtain ⟨v, h1, h2⟩ := sliceK_loc (K := fun v => K v st.fr) h
    exact ⟨_, _, h1, fun K' r' hk => h2 st.fr (fun d k _ _ _ => rfl) (fun v => K' v st.fr) r' hk⟩
  case fieldAddr t x i =>
    simp only [execK] at h
    split at h <;> first | (cases h; done) | skip
    rename_i off ft ho
    split at h <;> first | (cases h; done) | skip
    all_goals
      rename_i he
      exact ⟨_, _, h, fun K' r' hk => by simp only [execK, he, ho]; exact hk⟩
  case field t x i =>
    simp only [execK] at h
    split at h <;> first | (cases h; done) | skip
    rename_i off ft ho
    split at h <;> first | (cases h; done) | skip
    all_goals
      rename_i he
      split at h <;> first | (cases h; done) | skip
      rename_i ag ha
    · obtain ⟨v, h1, h2⟩ := loadRow_det h
      exact ⟨_, _, h1, fun K' r' hk => by simp only [execK, he, ho, ha]; exact h2 _ r' hk⟩
    · obtain ⟨v, h1, h2⟩ := loadBox_det h
      exact ⟨_, _, h1, fun K' r' hk => by simp only [execK, he, ho, ha]; exact h2 _ r' hk⟩
  case indexAddr t x i =>
    obtain ⟨k, n, h1, h2⟩ := wInt_det (K := fun _ n => indexAddrK P st.fr t (st.ev x) n fun v => K v st.fr) h
    obtain ⟨v, h3, h4⟩ := indexAddrK_loc h1
    exact ⟨_, _, h3, fun K' r' hk => h2 (fun _ n => indexAddrK P st.fr t (st.ev x) n fun v => K' v st.fr) r' (h4 st.fr (fun d k _ _ _ => rfl) (fun v => K' v st.fr) r' hk)⟩
  case index t x i =>
    simp only [execK] at h
    obtain ⟨k, n, h1, h2⟩ := wInt_det h
    split at h1 <;> first | (cases h1; done) | skip
    · rename_i s he
      split at h1 <;> first | (cases h1; done) | skip
      rename_i hd
      split at h1 <;> first | (cases h1; done) | skip
      rename_i bb q1 q2
      exact ⟨_, _, h1, fun K' r' hk => by simp only [execK]; exact h2 _ r' (by simp only [he, hd, q1, q2]; exact hk)⟩
    · rename_i vs he
      split at h1 <;> first | (cases h1; done) | skip
      rename_i len e hd
      split at h1 <;> first | (cases h1; done) | skip
      rename_i ag q1 q2
      obtain ⟨v, h3, h4⟩ := loadRow_det h1
      exact ⟨_, _, h3, fun K' r' hk => by simp only [execK]; exact h2 _ r' (by simp only [he, hd, q1, q2]; exact h4 _ r' hk)⟩
  case lookup t x i ok =>
    simp only [execK] at h
    split at h <;> first | (cases h; done) | skip
    rename_i kt et hd
    split at h <;> first | (cases h; done) | skip
    rename_i d k he
    split at h <;> first | (cases h; done) | skip
    rename_i es hlb
    obtain ⟨key, h1, h2⟩ := wRo_det h
    split at h1 <;> first | (cases h1; done) | skip
    rename_i hk0
    split at h1 <;> first | (cases h1; done) | skip
    · rename_i j v hfe
      exact ⟨_, _, h1, fun K' r' hk => by simp only [execK, hd, he, hlb]; exact h2 _ r' (by simp only [hk0, hfe]; exact hk)⟩
    · rename_i hfe
      obtain ⟨v, h3, h4⟩ := zero1_det h1
      exact ⟨_, _, h3, fun K' r' hk => by simp only [execK, hd, he, hlb]; exact h2 _ r' (by simp only [hk0, hfe]; exact h4 _ r' hk)⟩
  case mapUpdate t mm key v =>
    simp only [execK] at h
    split at h <;> first | (cases h; done) | skip
    rename_i kt et hd
    split at h <;> first | (cases h; done) | skip
    rename_i d k he
    split at h <;> first | (cases h; done) | skip
    rename_i es hlb
    obtain ⟨key', h1, h2⟩ := wRo_det h
    obtain ⟨v', h3, h4⟩ := wRo_det h1
    split at h3 <;> first | (cases h3; done) | skip
    rename_i hk0
    split at h3 <;> first | (cases h3; done) | skip
    · rename_i j u hfe
      exact ⟨_, _, h3, fun K' r' hk => by simp only [execK, hd, he, hlb]; exact h2 _ r' (h4 _ r' (by simp only [hk0, hfe]; exact hk))⟩
    · rename_i hfe
      exact ⟨_, _, h3, fun K' r' hk => by simp only [execK, hd, he, hlb]; exact h2 _ r' (h4 _ r' (by simp only [hk0, hfe]; exact hk))⟩
  case range t x =>
    simp only [execK] at h
    split at h <;> first | (cases h; done) | skip
    rename_i hd
    split at h <;> first | (cases h; done) | skip
    rename_i s he
    obtain ⟨fr', h3, h4⟩ := allocK_det h
    exact ⟨_, _, h3, fun K' r' hk => by simp only [execK, hd, he]; exact h4 _ r' hk⟩
  case next it isS =>
    simp only [execK] at h
    split at h <;> first | (cases h; done) | skip
    split at h <;> first | (cases h; done) | skip
    rename_i k he
    split at h <;> first | (cases h; done) | skip
    rename_i s pos' hlb
    split at h
    · rename_i hb
      exact ⟨_, _, h, fun K' r' hk => by simp only [execK, he, hlb, hb]; exact hk⟩
    · rename_i hb
      exact ⟨_, _, h, fun K' r' hk => by simp only [execK, he, hlb, hb]; exact hk⟩
  case extract x i =>
    simp only [execK] at h
    split at h <;> first | (cases h; done) | skip
    rename_i vs he
    split at h <;> first | (cases h; done) | skip
    rename_i v hv
    exact ⟨_, _, h, fun K' r' hk => by simp only [execK, he, hv]; exact hk⟩
  case call c =>
    simp only [execK] at h
    split at h <;> first | (cases h; done) | skip
    rename_i bi hbi
    obtain ⟨v, fr', h1, h2⟩ := builtinK_det h
    exact ⟨_, _, h1, fun K' r' hk => by simp only [execK, hbi]; exact h2 K' r' hk⟩
  all_goals (cases h)

end Go.PM
