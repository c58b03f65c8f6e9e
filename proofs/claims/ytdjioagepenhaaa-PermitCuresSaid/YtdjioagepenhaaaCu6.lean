/-
Part 6 of a proof: the machine PM, its law, the walks through the program, and what they say: PMPost, PMRead, PMTop, PMTry, PWEq, PWJ0, PWJ8, PWRd.
-/
import Derived.Carry
import Derived.ChangeKeysEq
import Derived.ChangeOld
import Derived.Laws.StructEq
import Derived.OpenShut
import Derived.ProofKit
import Derived.Test.YtdjioagepenhaaaChecked
import Derived.Test.YtdjioagepenhaaaProg
import Derived.Test.YtdjioagepenhaaaRows
import Derived.Test.YtdjioagepenhaaaCu5
set_option linter.unusedVariables false
set_option linter.unusedSimpArgs false
set_option linter.unusedSectionVars false
set_option linter.unnecessarySimpa false
set_option linter.unusedSectionVars false
namespace Go.PM
variable [LoopCodes]
variable {H : Type} {P : Program}

/-- A struct's cells from its fields'. -/
def rvFields (P : Program) (g : TypeId → DataW H → Option (List RV)) : List Field → Nat → List (DataW H) → Option (List RV)
  | [], _, [] => some []
  | f :: fs, off, p :: ps => match f.offset == off, g f.type p, rvFields P g fs (off + P.cellsOf f.type) ps with
    | true, some a, some r => match a.length == P.cellsOf f.type with
      | true => some (a ++ r)
      | false => none
    | _, _, _ => none
  | _, _, _ => none
def rvRows (P : Program) (g : DataW H → Option (List RV)) (n : Nat) : List (DataW H) → Option (List (List RV))
  | [] => some []
  | d :: ds => match g d, rvRows P g n ds with
    | some a, some r => match a.length == n with
      | true => some (a :: r)
      | false => none
    | _, _ => none

/-- The cells of a reading. -/
def rvC (P : Program) : Nat → TypeId → DataW H → Option (List RV)
  | 0, _, _ => none
  | n + 1, t, d => match P.underlying t, d with
    | some .bool, .lit (.bool b) => some [.bool b]
    | some (.int k), .lit (.int _ m) => some [.int k m]
    | some .string, .lit (.string l) => some [.str ⟨l.toArray⟩]
    | some (.slice _), .nil => some [.nils]
    | some (.slice e), .slice es _ => match rvRows P (rvC P n e) (P.cellsOf e) es, Nat.blt 0 (P.cellsOf e) with
      | some rows, true => some [.vsl (P.cellsOf e) rows]
      | _, _ => none
    | some (.struct fs), .agg ps => match rvFields P (rvC P n) fs.toList 0 ps with
      | some rs => match rs.length == P.cellsOf t with
        | true => some rs
        | false => none
      | none => none
    | some (.array m e), .agg ps => match rvRows P (rvC P n e) (P.cellsOf e) ps with
      | some rows => match rows.flatten.length == P.cellsOf t with
        | true => some rows.flatten
        | false => none
      | none => none
    | _, _ => none

def memOf (w : World) : Mem := fun b o => w.cell? ⟨b, o, none⟩

theorem ListR.append {m : Mem} : ∀ {vs vs' : List RV} {cs cs' : List Value}, ListR m vs cs → ListR m vs' cs' → ListR m (vs ++ vs') (cs ++ cs')
  | [], vs', cs, cs', h, h' => by simp only [ListR] at h; subst h; exact h'
  | v :: vs, vs', cs, cs', h, h' => by
    simp only [ListR] at h
    obtain ⟨c, cs1, rfl, h1, h2⟩ := h
    simp only [List.cons_append, ListR]
    exact ⟨c, _, rfl, h1, ListR.append h2 h'⟩

theorem rvRows_get {g : DataW H → Option (List RV)} {n : Nat} : ∀ {ds : List (DataW H)} {rows : List (List RV)}, rvRows P g n ds = some rows → rows.length = ds.length ∧ ∀ (i : Nat) (row : List RV), rows[i]? = some row → ∃ d, ds[i]? = some d ∧ g d = some row ∧ row.length = n
  | [], rows, h => by simp only [rvRows] at h; cases h; exact ⟨rfl, fun i row h => by simp at h⟩
  | d :: ds, rows, h => by
    simp only [rvRows] at h
    split at h <;> first | (cases h; done) | skip
    rename_i a r ha hr
    split at h <;> first | (cases h; done) | skip
    rename_i hl
    cases h
    obtain ⟨h1, h2⟩ := rvRows_get hr
    refine ⟨by simp [h1], fun i row hi => ?_⟩
    cases i with
    | zero => simp at hi; subst hi; exact ⟨d, by simp, ha, by simpa using hl⟩
    | succ i => obtain ⟨d', e1, e2⟩ := h2 i row (by simpa using hi); exact ⟨d', by simpa using e1, e2⟩

/-- One cell after another. -/
def OneAll (cs : List Value) : Prop := ∀ u ∈ cs, u.oneCell' = true

theorem rvFields_rel {m : Mem} {g : TypeId → DataW H → Option (List RV)} {tr : TypeId → List Value → Option (DataW H × List MemPlace)} {cs : List Value}
    (hg : ∀ t c d p a, tr t c = some (d, p) → g t d = some a → ListR m a c ∧ OneAll c) :
    ∀ (fs : List Field) (off : Nat) (ps : List (DataW H)) (rs : List RV) (xs : List (DataW H × List MemPlace)), rvFields P g fs off ps = some rs →
      (fs.mapM fun f => tr f.type ((cs.drop f.offset).take (P.cellsOf f.type))) = some xs → xs.map (·.1) = ps → ListR m rs ((cs.drop off).take rs.length) ∧ OneAll ((cs.drop off).take rs.length)
  | [], off, ps, rs, xs, h, hx, hp => by
    simp at hx; subst hx
    simp at hp; subst hp
    simp only [rvFields] at h; cases h
    simp [ListR, OneAll]
  | f :: fs, off, [], rs, xs, h, hx, hp => by simp [rvFields] at h
  | f :: fs, off, p :: ps, rs, xs, h, hx, hp => by
    simp only [rvFields] at h
    split at h <;> first | (cases h; done) | skip
    rename_i a r ho ha hr
    split at h <;> first | (cases h; done) | skip
    rename_i hl
    cases h
    have ho' : f.offset = off := by simpa using ho
    have hl' : a.length = P.cellsOf f.type := by simpa using hl
    rw [List.mapM_cons] at hx
    cases hx1 : tr f.type ((cs.drop f.offset).take (P.cellsOf f.type)) with
    | none => rw [hx1] at hx; simp at hx
    | some y =>
      rw [hx1] at hx
      cases hx2 : fs.mapM fun f => tr f.type ((cs.drop f.offset).take (P.cellsOf f.type)) with
      | none => rw [hx2] at hx; simp at hx
      | some ys =>
        rw [hx2] at hx
        simp at hx
        subst hx
        simp at hp
        obtain ⟨hp1, hp2⟩ := hp
        obtain ⟨y1, y2⟩ := y
        simp only at hp1
        subst hp1
        obtain ⟨q1, q2⟩ := hg _ _ _ _ _ hx1 ha
        obtain ⟨q3, q4⟩ := rvFields_rel hg fs (off + P.cellsOf f.type) ps r ys hr hx2 (by simpa using hp2)
        rw [ho'] at q1 q2
        have hsplit : (cs.drop off).take (a ++ r).length = (cs.drop off).take (P.cellsOf f.type) ++ (cs.drop (off + P.cellsOf f.type)).take r.length := by
          rw [List.length_append, hl', List.take_add, List.drop_drop]
        rw [hsplit]
        exact ⟨q1.append q3, fun u hu => (List.mem_append.1 hu).elim (q2 u) (q4 u)⟩

theorem cell_spot {w : World} {a : Addr} {c : Value} (h : w.cell? a = some c) : a.spot = none := by
  unfold World.cell? at h
  split at h
  · split at h
    · cases h
    · rename_i hs
      cases hx : a.spot with
      | none => rfl
      | some x => rw [hx] at hs; simp at hs
  · cases h

theorem add_plain {a : Addr} (h : a.spot = none) (k : Nat) : a.add k = ⟨a.block, a.off + k, none⟩ := by
  cases a
  simp only at h
  subst h
  exact Addr.add_lit _ _ _

theorem elems_rel {w : World} {base : Nat} {a : Addr} {len n : Nat} {tr : List Value → Option (DataW H × List MemPlace)} {g : DataW H → Option (List RV)} {elems : List (DataW H × List MemPlace)} {rows : List (List RV)}
    (hn : 0 < n) (ih : ∀ cs d p rs, tr cs = some (d, p) → g d = some rs → ListR (memOf w) rs cs ∧ OneAll cs)
    (he : ((List.range len).mapM fun i => (w.cells? base (a.add (i * n)) n).bind tr) = some elems) (hr : rvRows P g n (elems.map (·.1)) = some rows) :
    rows.length = len ∧ (rows ≠ [] → a.spot = none) ∧ RowsR (memOf w) a.block n a.off rows := by
  obtain ⟨h1, h2⟩ := rvRows_get hr
  have hlen : elems.length = len := by simpa using mapM_some_length he
  have hat : ∀ (i : Nat) (row : List RV), rows[i]? = some row → ∃ cs, w.cells? base (a.add (i * n)) n = some cs ∧ ListR (memOf w) row cs ∧ OneAll cs ∧ row.length = n := fun i row hi => by
    obtain ⟨d, e1, e2, e3⟩ := h2 i row hi
    rw [List.getElem?_map] at e1
    cases hx : elems[i]? with
    | none => rw [hx] at e1; cases e1
    | some y =>
      rw [hx] at e1
      simp at e1
      have hil : i < len := by rw [← hlen]; exact (List.getElem?_eq_some_iff.1 hx).1
      have h3 := mapM_some_get he i i (by simp [hil])
      rw [hx] at h3
      cases hc : w.cells? base (a.add (i * n)) n with
      | none => rw [hc] at h3; cases h3
      | some cs =>
        rw [hc] at h3
        obtain ⟨y1, y2⟩ := y
        simp only at e1
        subst e1
        obtain ⟨q1, q2⟩ := ih cs y1 y2 row h3 e2
        exact ⟨cs, rfl, q1, q2, e3⟩
  have hspot : rows ≠ [] → a.spot = none := fun hne => by
    obtain ⟨row, hrow⟩ : ∃ row, rows[0]? = some row := by
      cases rows with
      | nil => exact absurd rfl hne
      | cons r rs => exact ⟨r, rfl⟩
    obtain ⟨cs, q1, _⟩ := hat 0 row hrow
    obtain ⟨_, hl, hc⟩ := World.cells?_some q1
    have h0 := hc 0 hn
    rw [List.getElem?_eq_getElem (by omega)] at h0
    have h4 := cell_spot h0
    cases hs : a.spot with
    | none => rfl
    | some x => simp [Addr.add, hs] at h4
  refine ⟨by rw [h1, List.length_map, hlen], hspot, RowsR.of_get fun i row hi => ?_⟩
  obtain ⟨cs, q1, q2, q3, q4⟩ := hat i row hi
  refine ⟨q4, RowR.of_get fun j v hj => ?_⟩
  have hsp := hspot (fun e => by rw [e] at hi; simp at hi)
  obtain ⟨_, hl, hc⟩ := World.cells?_some q1
  have hjn : j < n := by rw [← q4]; exact (List.getElem?_eq_some_iff.1 hj).1
  obtain ⟨u, e1, e2⟩ := q2.get hj
  have h5 := hc j hjn
  rw [add_plain hsp, add_plain rfl] at h5
  exact ⟨u, h5.trans e1, q3 u (List.mem_of_getElem? e1), e2⟩

theorem rvArr_rel {m : Mem} {sz : Nat} {g : DataW H → Option (List RV)} {tr : List Value → Option (DataW H × List MemPlace)} {cs : List Value}
    (hg : ∀ c d p a, tr c = some (d, p) → g d = some a → ListR m a c ∧ OneAll c) :
    ∀ (cnt k : Nat) (ps : List (DataW H)) (rows : List (List RV)) (xs : List (DataW H × List MemPlace)), rvRows P g sz ps = some rows →
      ((List.range' k cnt).mapM fun i => tr ((cs.drop (i * sz)).take sz)) = some xs → xs.map (·.1) = ps → ListR m rows.flatten ((cs.drop (k * sz)).take rows.flatten.length) ∧ OneAll ((cs.drop (k * sz)).take rows.flatten.length)
  | 0, k, ps, rows, xs, h, hx, hp => by
    simp at hx; subst hx
    simp at hp; subst hp
    simp only [rvRows] at h; cases h
    simp [ListR, OneAll]
  | cnt + 1, k, ps, rows, xs, h, hx, hp => by
    rw [List.range'_succ, List.mapM_cons] at hx
    cases hx1 : tr ((cs.drop (k * sz)).take sz) with
    | none => rw [hx1] at hx; simp at hx
    | some y =>
      rw [hx1] at hx
      cases hx2 : (List.range' (k + 1) cnt).mapM fun i => tr ((cs.drop (i * sz)).take sz) with
      | none => rw [hx2] at hx; simp at hx
      | some ys =>
        rw [hx2] at hx
        simp at hx
        subst hx
        cases ps with
        | nil => simp at hp
        | cons p ps =>
          simp at hp
          obtain ⟨hp1, hp2⟩ := hp
          obtain ⟨y1, y2⟩ := y
          simp only at hp1
          subst hp1
          simp only [rvRows] at h
          split at h <;> first | (cases h; done) | skip
          rename_i a r ha hr
          split at h <;> first | (cases h; done) | skip
          rename_i hl
          cases h
          have hl' : a.length = sz := by simpa using hl
          obtain ⟨q1, q2⟩ := hg _ _ _ _ hx1 ha
          obtain ⟨q3, q4⟩ := rvArr_rel hg cnt (k + 1) ps r ys hr hx2 (by simpa using hp2)
          have hsplit : (cs.drop (k * sz)).take (a :: r).flatten.length = (cs.drop (k * sz)).take sz ++ (cs.drop ((k + 1) * sz)).take r.flatten.length := by
            rw [List.flatten_cons, List.length_append, hl', List.take_add, List.drop_drop, Nat.add_mul, Nat.one_mul]
          rw [hsplit, List.flatten_cons]
          exact ⟨q1.append q3, fun u hu => (List.mem_append.1 hu).elim (q2 u) (q4 u)⟩

theorem rvC_rel {enc : TypeId × Value → H} {w : World} {base : Nat} {spare : Nat → Bool} {held : Bool} : ∀ (n : Nat) (t : TypeId) (cs : List Value) (d : DataW H) (p : List MemPlace) (rs : List RV),
    DataW.trod enc P w base spare held n t cs = some (d, p) → rvC P n t d = some rs → ListR (memOf w) rs cs ∧ OneAll cs
  | 0, t, cs, d, p, rs, h, h' => by simp [rvC] at h'
  | n + 1, t, cs, d, p, rs, h, h' => by
    have ih := fun t cs d p rs => rvC_rel (enc := enc) (w := w) (base := base) (spare := spare) (held := held) n t cs d p rs
    unfold rvC at h'
    split at h' <;> first | (cases h'; done) | skip
    · rename_i b hd
      cases h'
      unfold DataW.trod at h
      rw [hd] at h
      split at h <;> simp_all [ListR, VRr, OneAll, Value.oneCell']
    · rename_i k k' m hd
      cases h'
      unfold DataW.trod at h
      rw [hd] at h
      split at h <;> simp_all [ListR, VRr, OneAll, Value.oneCell']
    · rename_i l hd
      cases h'
      unfold DataW.trod at h
      rw [hd] at h
      split at h <;> simp_all [ListR, VRr, OneAll, Value.oneCell']
      obtain ⟨_, rfl, _⟩ := h
      rfl
    · rename_i e hd
      cases h'
      unfold DataW.trod at h
      rw [hd] at h
      split at h <;> simp_all [ListR, VRr, OneAll, Value.oneCell']
      obtain ⟨_, h⟩ := h
      simp only [Option.bind_eq_some_iff, Option.map_eq_some_iff] at h
      obtain ⟨elems, _, rest, _, h⟩ := h
      cases h
    · rename_i e es sp hd
      split at h' <;> first | (cases h'; done) | skip
      rename_i rows hrows hn
      cases h'
      have hn' : 0 < P.cellsOf e := by simpa using hn
      unfold DataW.trod at h
      rw [hd] at h
      split at h <;> first | (simp at h; done) | (rename_i hx; cases hx; done) | skip
      all_goals first
        | (rename_i a len cap he
           cases he
           split at h <;> first | (cases h; done) | skip
           rename_i hc
           simp only [Option.bind_eq_some_iff, Option.map_eq_some_iff] at h
           obtain ⟨elems, he, rest, hrest, h⟩ := h
           cases h
           obtain ⟨q1, q2, q3⟩ := elems_rel hn' (fun cs d p rs => ih _ cs d p rs) he hrows
           refine ⟨?_, fun u hu => ?_⟩
           · simp only [ListR, VRr]
             exact ⟨_, _, rfl, ⟨a, cap, by rw [q1], by rw [q1]; exact hc.2.1, q2, q3⟩, rfl⟩
           · simp at hu; subst hu; rfl)
        | skip
    · rename_i fs ps hd
      split at h' <;> first | (cases h'; done) | skip
      rename_i rs' hrs
      split at h' <;> first | (cases h'; done) | skip
      rename_i hl
      cases h'
      have hl' : rs.length = P.cellsOf t := by simpa using hl
      unfold DataW.trod at h
      rw [hd] at h
      have key : ∀ cs : List Value, (if cs.length = P.cellsOf t then (fs.toList.mapM fun f => DataW.trod enc P w base spare held n f.type ((cs.drop f.offset).take (P.cellsOf f.type))).map fun xs => ((.agg (xs.map (·.1)) : DataW H), xs.flatMap (·.2)) else none) = some (.agg ps, p) → ListR (memOf w) rs cs ∧ OneAll cs := fun cs h => by
        split at h <;> first | (cases h; done) | skip
        rename_i hcl
        simp only [Option.map_eq_some_iff] at h
        obtain ⟨xs, hx, h⟩ := h
        cases h
        have := rvFields_rel (m := memOf w) (tr := DataW.trod enc P w base spare held n) (cs := cs) (fun t c d p a h1 h2 => ih t c d p a h1 h2) fs.toList 0 _ rs xs hrs hx rfl
        rw [List.drop_zero, hl', ← hcl, List.take_length] at this
        exact this
      split at h <;> first | (simp at h; done) | (rename_i hx; cases hx; done) | skip
      all_goals first | (cases h; done) | (rename_i hx; cases hx; exact key _ h) | (simp at h; done) | (exfalso; simp_all; done)
    · rename_i mm e ps hd
      split at h' <;> first | (cases h'; done) | skip
      rename_i rows hrows
      split at h' <;> first | (cases h'; done) | skip
      rename_i hl
      cases h'
      have hl' : rows.flatten.length = P.cellsOf t := by simpa using hl
      unfold DataW.trod at h
      rw [hd] at h
      have key : ∀ cs : List Value, (if cs.length = P.cellsOf t then ((List.range mm).mapM fun i => DataW.trod enc P w base spare held n e ((cs.drop (i * P.cellsOf e)).take (P.cellsOf e))).map fun xs => ((.agg (xs.map (·.1)) : DataW H), xs.flatMap (·.2)) else none) = some (.agg ps, p) → ListR (memOf w) rows.flatten cs ∧ OneAll cs := fun cs h => by
        split at h <;> first | (cases h; done) | skip
        rename_i hcl
        simp only [Option.map_eq_some_iff] at h
        obtain ⟨xs, hx, h⟩ := h
        cases h
        rw [List.range_eq_range'] at hx
        have := rvArr_rel (P := P) (m := memOf w) (tr := DataW.trod enc P w base spare held n e) (cs := cs) (fun c d p a h1 h2 => ih e c d p a h1 h2) mm 0 _ rows xs hrows hx rfl
        rw [Nat.zero_mul, List.drop_zero, hl', ← hcl, List.take_length] at this
        exact this
      split at h <;> first | (simp at h; done) | (rename_i hx; cases hx; done) | skip
      all_goals first | (cases h; done) | (rename_i hx; cases hx; exact key _ h) | (simp at h; done) | (exfalso; simp_all; done)

end Go.PM

set_option linter.unusedSectionVars false
namespace Go.PM
variable [LoopCodes]
open Go.RowKit Go.ChangeShapes Go.WideShapes
variable {H : Type} {P : Program} {enc : TypeId × Value → H}

theorem Step.below {m m' : Mem} {w w' : World} (h : Step m [] [] w m' w') : Below w.heap.size w w' :=
  ⟨h.os, h.tape, h.output, h.size, fun k hk => h.block k hk fun d k lb l h0 => by simp [lbAt?] at h0⟩

theorem trodAll_below (hl : laidOutB P = true) {W W' : World} (hb : Below W.heap.size W W') : ∀ {ts : List TypeId} {vs : List Value} {ds : List (DataW H)} {ps : List MemPlace}, (∀ t ∈ ts, P.readableRec t = true ∧ t < P.types.size) → (∀ x ∈ ps, x.block < W.heap.size) →
    DataW.TrodAll enc P W 0 (fun _ => true) true ts vs ds ps → DataW.TrodAll enc P W' 0 (fun b => decide (b < W.heap.size)) true ts vs ds ps
  | [], [], [], ps, _, _, h => h
  | t :: ts, v :: vs, d :: ds, ps, ht, hlt, h => by
    obtain ⟨p, q, h1, h2, rfl⟩ := h
    obtain ⟨r1, r2⟩ := ht t (by simp)
    exact ⟨p, q, Below.trod hl r1 r2 h1 hb (fun x hx => hlt x (List.mem_append_left _ hx)), trodAll_below hl hb (fun t' h' => ht t' (List.mem_cons_of_mem _ h')) (fun x hx => hlt x (List.mem_append_right _ hx)) h2, rfl⟩
  | [], _ :: _, _, _, _, _, h => h.elim
  | [], [], _ :: _, _, _, _, h => h.elim
  | _ :: _, [], _, _, _, _, h => h.elim
  | _ :: _, _ :: _, [], _, _, _, h => h.elim

theorem post_true {f : Func} {s : ChangeSpec} {W W' : World} {args : Array Value} {v : Value} {ds gs : List (DataW H)} {before : List MemPlace} {fresh handsOn : Bool} {t : TypeId}
    (hl : laidOutB P = true) (hpar : ∀ t ∈ f.params.toList, P.readableRec t = true ∧ t < P.types.size) (hsv : s.vars = []) (hW : DataW.Whole enc P f.params.toList s.vars false W args.toList ds gs before) (hb : Below W.heap.size W W')
    (hrt : f.resultTypes = #[t]) (ht : P.underlying t = some .bool) (hv : v = .bool true) (hres : (s.fn H (ds ++ gs)).results = [.lit (.bool true)]) (hargs : (s.fn H (ds ++ gs)).args = ds) (hvars : (s.fn H (ds ++ gs)).vars = []) :
    s.post enc P f false fresh handsOn false W args v W' := by
  have hW' := hW
  obtain ⟨p, q, h1, h2, rfl, h3, h4⟩ := hW
  subst hv
  refine ⟨ds, gs, p ++ q, [], p, [], hW', ?_, ?_, ?_, hb.frame _, fun h => by cases h⟩
  · rw [hres, hrt]
    refine ⟨[], [], ⟨1, ?_⟩, rfl, rfl⟩
    simp [DataW.trod, ht, Value.cells]
  · rw [hargs]
    exact trodAll_below hl hb hpar (fun x hx => h1.lt x hx) h1
  · rw [hvars, hsv]
    rfl

end Go.PM

set_option linter.unusedSectionVars false
namespace Go.PM
open Go.WideShapes
variable [LoopCodes]
variable {P : Program}

/-- Values of a type are this data, laid so. -/
structure Reads (P : Program) (t : TypeId) {α : Type} (f : α → List RV) : Prop where
  out : ∀ {H : Type} (enc : TypeId × Value → H) (w : World) (base : Nat) (spare : Nat → Bool) (held : Bool) (n : Nat) (cs : List Value) (d : DataW H) (p : List MemPlace),
    DataW.trod enc P w base spare held n t cs = some (d, p) → ∃ a : α, ListR (memOf w) (f a) cs ∧ OneAll cs

theorem Reads.map {t : TypeId} {α β : Type} {f : α → List RV} {g : β → List RV} (h : Reads P t f) (k : α → β) (hk : ∀ a, g (k a) = f a) : Reads P t g := .mk fun enc w base spare held n cs d p hd => by
  obtain ⟨a, h1, h2⟩ := h.out enc w base spare held n cs d p hd
  exact ⟨k a, by rw [hk]; exact h1, h2⟩

theorem reads_int {t : TypeId} {k : IntKind} (ht : P.underlying t = some (.int k)) : Reads P t (fun x : {n : Int // (Lit.int k n).wf = true} => [.int k x.1]) := .mk fun enc w base spare held n cs d p hd => by
  cases n with
  | zero => simp [DataW.trod] at hd
  | succ n =>
    unfold DataW.trod at hd
    rw [ht] at hd
    split at hd <;> first | (simp at *; done) | skip
    all_goals first | (cases hd; done) | skip
    all_goals (rename_i e; try (cases e))
    split at hd <;> first | (cases hd; done) | skip
    rename_i hc
    obtain ⟨rfl, hw⟩ := hc
    exact ⟨⟨_, hw⟩, by simp [ListR, VRr], by intro u hu; simp at hu; subst hu; rfl⟩
theorem reads_bool {t : TypeId} (ht : P.underlying t = some .bool) : Reads P t (fun x : Bool => [.bool x]) := .mk fun enc w base spare held n cs d p hd => by
  cases n with
  | zero => simp [DataW.trod] at hd
  | succ n =>
    unfold DataW.trod at hd
    rw [ht] at hd
    split at hd <;> first | (simp at *; done) | skip
    all_goals first | (cases hd; done) | skip
    all_goals (rename_i e; try (cases e))
    exact ⟨_, by simp only [ListR, VRr]; exact ⟨_, _, rfl, rfl, rfl⟩, by intro u hu; simp at hu; subst hu; rfl⟩
theorem reads_str {t : TypeId} (ht : P.underlying t = some .string) : Reads P t (fun x : ByteArray => [.str x]) := .mk fun enc w base spare held n cs d p hd => by
  cases n with
  | zero => simp [DataW.trod] at hd
  | succ n =>
    unfold DataW.trod at hd
    rw [ht] at hd
    split at hd <;> first | (simp at *; done) | skip
    all_goals first | (cases hd; done) | skip
    all_goals (rename_i e; try (cases e))
    split at hd <;> first | (cases hd; done) | skip
    exact ⟨_, by simp only [ListR, VRr]; exact ⟨_, _, rfl, rfl, rfl⟩, by intro u hu; simp at hu; subst hu; rfl⟩
theorem exists_list {α : Type} {Q : Nat → α → Prop} : ∀ (n : Nat), (∀ i, i < n → ∃ a, Q i a) → ∃ l : List α, l.length = n ∧ ∀ (i : Nat) (a : α), l[i]? = some a → Q i a
  | 0, _ => ⟨[], rfl, fun i a h => by simp at h⟩
  | n + 1, h => by
    obtain ⟨l, h1, h2⟩ := exists_list n fun i hi => h i (by omega)
    obtain ⟨a, ha⟩ := h n (by omega)
    refine ⟨l ++ [a], by simp [h1], fun i b hb => ?_⟩
    rw [List.getElem?_append] at hb
    split at hb
    · exact h2 i b hb
    · rename_i hi
      have : i = n := by
        have := (List.getElem?_eq_some_iff.1 hb).1
        simp at this; omega
      subst this
      simp [h1] at hb
      subst hb; exact ha
theorem elems_reads {H : Type} {enc : TypeId × Value → H} {w : World} {base : Nat} {spare : Nat → Bool} {held : Bool} {fuel : Nat} {e : TypeId} {α : Type} {f : α → List RV} (he : Reads P e f) {a : Addr} {len n : Nat} {elems : List (DataW H × List MemPlace)}
    (hn : 0 < n) (hf : ∀ x, (f x).length = n)
    (hm : ((List.range len).mapM fun i => (w.cells? base (a.add (i * n)) n).bind (DataW.trod enc P w base spare held fuel e)) = some elems) :
    ∃ l : List α, l.length = len ∧ (l ≠ [] → a.spot = none) ∧ RowsR (memOf w) a.block n a.off (l.map f) := by
  have hlen : elems.length = len := by simpa using mapM_some_length hm
  have hat : ∀ i, i < len → ∃ x, ∃ cs, w.cells? base (a.add (i * n)) n = some cs ∧ ListR (memOf w) (f x) cs ∧ OneAll cs := fun i hi => by
    have h3 := mapM_some_get hm i i (by simp [hi])
    obtain ⟨y, hy⟩ : ∃ y, elems[i]? = some y := ⟨_, List.getElem?_eq_getElem (by omega)⟩
    rw [hy] at h3
    cases hc : w.cells? base (a.add (i * n)) n with
    | none => rw [hc] at h3; cases h3
    | some cs =>
      rw [hc] at h3
      obtain ⟨x, h4, h5⟩ := he.out enc w base spare held fuel cs y.1 y.2 h3
      exact ⟨x, cs, rfl, h4, h5⟩
  obtain ⟨l, h1, h2⟩ := exists_list len hat
  have hspot : l ≠ [] → a.spot = none := fun hne => by
    obtain ⟨x, hx⟩ : ∃ x, l[0]? = some x := by
      cases l with
      | nil => exact absurd rfl hne
      | cons r rs => exact ⟨r, rfl⟩
    obtain ⟨cs, q1, _⟩ := h2 0 x hx
    obtain ⟨_, hl, hc⟩ := World.cells?_some q1
    have h0 := hc 0 hn
    rw [List.getElem?_eq_getElem (by omega)] at h0
    have h4 := cell_spot h0
    cases hs : a.spot with
    | none => rfl
    | some x => simp [Addr.add, hs] at h4
  refine ⟨l, h1, hspot, RowsR.of_get fun i row hi => ?_⟩
  rw [List.getElem?_map] at hi
  cases hx : l[i]? with
  | none => rw [hx] at hi; cases hi
  | some x =>
    rw [hx] at hi
    simp at hi
    subst hi
    obtain ⟨cs, q1, q2, q3⟩ := h2 i x hx
    refine ⟨hf x, RowR.of_get fun j v hj => ?_⟩
    have hsp := hspot (fun e => by rw [e] at hx; simp at hx)
    obtain ⟨_, hl, hc⟩ := World.cells?_some q1
    have hjn : j < n := by rw [← hf x]; exact (List.getElem?_eq_some_iff.1 hj).1
    obtain ⟨u, e1, e2⟩ := q2.get hj
    have h5 := hc j hjn
    rw [add_plain hsp, add_plain rfl] at h5
    exact ⟨u, h5.trans e1, q3 u (List.mem_of_getElem? e1), e2⟩
theorem reads_slice {t e : TypeId} (ht : P.underlying t = some (.slice e)) {n : Nat} (hn : 0 < n) (hs : P.cellsOf e = n) {α : Type} {f : α → List RV} (hf : ∀ x, (f x).length = n) (he : Reads P e f) : Reads P t (fun s : Sl α => [s.enc n f]) := .mk fun enc w base spare held fuel cs d p hd => by
  cases fuel with
  | zero => simp [DataW.trod] at hd
  | succ fuel =>
    unfold DataW.trod at hd
    rw [ht] at hd
    split at hd <;> first | (simp at *; done) | skip
    all_goals first | (cases hd; done) | skip
    · exact ⟨⟨0, []⟩, by simp only [← nils_enc, ListR, VRr]; exact ⟨_, _, rfl, rfl, rfl⟩, by intro u hu; simp at hu; subst hu; rfl⟩
    · rename_i he' 
      cases he'
      split at hd <;> first | (cases hd; done) | skip
      rename_i hc
      simp only [Option.bind_eq_some_iff, Option.map_eq_some_iff] at hd
      obtain ⟨elems, hel, rest, hrest, hd⟩ := hd
      rw [hs] at hel
      obtain ⟨l, q1, q2, q3⟩ := elems_reads he hn hf hel
      refine ⟨⟨2, l⟩, ?_, by intro u hu; simp at hu; subst hu; rfl⟩
      show ListR _ [Sl.enc n f ⟨2, l⟩] _
      rw [← vsl_enc]
      simp only [ListR, VRr]
      exact ⟨_, _, rfl, ⟨_, _, by rw [List.length_map, q1], by rw [List.length_map, q1]; exact hc.2.1, fun h => q2 (fun e => h (by rw [e]; rfl)), q3⟩, rfl⟩
/-- The fields of a struct, from one on. -/
structure ReadsF (P : Program) (fs : List Field) (off : Nat) {α : Type} (f : α → List RV) : Prop where
  out : ∀ {H : Type} (enc : TypeId × Value → H) (w : World) (base : Nat) (spare : Nat → Bool) (held : Bool) (n : Nat) (cs : List Value) (xs : List (DataW H × List MemPlace)),
    (fs.mapM fun fd => DataW.trod enc P w base spare held n fd.type ((cs.drop fd.offset).take (P.cellsOf fd.type))) = some xs → ∃ a : α, ListR (memOf w) (f a) ((cs.drop off).take (f a).length) ∧ OneAll ((cs.drop off).take (f a).length)
theorem readsF_nil (off : Nat) : ReadsF P [] off (fun _ : Unit => []) := .mk fun enc w base spare held n cs xs _ => ⟨(), by simp [ListR], by simp [OneAll]⟩
theorem readsF_cons {fd : Field} {fs : List Field} {off sz : Nat} (ho : fd.offset = off) (hsz : P.cellsOf fd.type = sz) {α β : Type} {f : α → List RV} {g : β → List RV} (hf : Reads P fd.type f) (hl : ∀ a, (f a).length = sz) (hg : ReadsF P fs (off + sz) g) : ReadsF P (fd :: fs) off (fun x : α × β => f x.1 ++ g x.2) := .mk fun enc w base spare held n cs xs hx => by
  rw [List.mapM_cons] at hx
  cases hx1 : DataW.trod enc P w base spare held n fd.type ((cs.drop fd.offset).take (P.cellsOf fd.type)) with
  | none => rw [hx1] at hx; simp at hx
  | some y =>
    rw [hx1] at hx
    cases hx2 : fs.mapM fun fd => DataW.trod enc P w base spare held n fd.type ((cs.drop fd.offset).take (P.cellsOf fd.type)) with
    | none => rw [hx2] at hx; simp at hx
    | some ys =>
      obtain ⟨a, q1, q2⟩ := hf.out enc w base spare held n _ y.1 y.2 hx1
      obtain ⟨b, q3, q4⟩ := hg.out enc w base spare held n cs ys hx2
      rw [ho, hsz] at q1 q2
      have hsplit : (cs.drop off).take (f a ++ g b).length = (cs.drop off).take sz ++ (cs.drop (off + sz)).take (g b).length := by
        rw [List.length_append, hl, List.take_add, List.drop_drop]
      refine ⟨(a, b), ?_, ?_⟩
      · simp only
        rw [hsplit]
        exact q1.append q3
      · simp only
        rw [hsplit]
        exact fun u hu => (List.mem_append.1 hu).elim (q2 u) (q4 u)
theorem reads_struct {t : TypeId} {fs : Array Field} (ht : P.underlying t = some (.struct fs)) {n : Nat} (hn : P.cellsOf t = n) {α : Type} {f : α → List RV} (hl : ∀ a, (f a).length = n) (hf : ReadsF P fs.toList 0 f) : Reads P t f := .mk fun enc w base spare held fuel cs d p hd => by
  cases fuel with
  | zero => simp [DataW.trod] at hd
  | succ fuel =>
    unfold DataW.trod at hd
    rw [ht] at hd
    have key : ∀ cs : List Value, (if cs.length = P.cellsOf t then (fs.toList.mapM fun f => DataW.trod enc P w base spare held fuel f.type ((cs.drop f.offset).take (P.cellsOf f.type))).map fun xs => ((.agg (xs.map (·.1)) : DataW _), xs.flatMap (·.2)) else none) = some (d, p) → ∃ a : α, ListR (memOf w) (f a) cs ∧ OneAll cs := fun cs h => by
      split at h <;> first | (cases h; done) | skip
      rename_i hcl
      simp only [Option.map_eq_some_iff] at h
      obtain ⟨xs, hx, h⟩ := h
      obtain ⟨a, q1, q2⟩ := hf.out enc w base spare held fuel cs xs hx
      rw [List.drop_zero, hl, ← hn, ← hcl, List.take_length] at q1 q2
      exact ⟨a, q1, q2⟩
    split at hd <;> first | (simp at hd; done) | (rename_i hx; cases hx; done) | skip
    all_goals first | (cases hd; done) | (rename_i hx; cases hx; exact key _ hd) | (simp at hd; done) | (exfalso; simp_all; done)
theorem reads_array {t e : TypeId} {m : Nat} (ht : P.underlying t = some (.array m e)) {sz : Nat} (hsz : P.cellsOf e = sz) {α : Type} {f : α → List RV} (hl : ∀ a, (f a).length = sz) (hn : P.cellsOf t = m * sz) (hf : Reads P e f) : Reads P t (fun l : {l : List α // l.length = m} => l.1.flatMap f) := .mk fun enc w base spare held fuel cs d p hd => by
  cases fuel with
  | zero => simp [DataW.trod] at hd
  | succ fuel =>
    unfold DataW.trod at hd
    rw [ht] at hd
    have go : ∀ (cs : List Value) (cnt k : Nat) (xs : List (DataW _ × List MemPlace)), ((List.range' k cnt).mapM fun i => DataW.trod enc P w base spare held fuel e ((cs.drop (i * sz)).take sz)) = some xs →
        ∃ l : List α, l.length = cnt ∧ ListR (memOf w) (l.flatMap f) ((cs.drop (k * sz)).take (cnt * sz)) ∧ OneAll ((cs.drop (k * sz)).take (cnt * sz)) := by
      intro cs cnt
      induction cnt with
      | zero => intro k xs _; exact ⟨[], rfl, by simp [ListR], by simp [OneAll]⟩
      | succ cnt ih =>
        intro k xs hx
        rw [List.range'_succ, List.mapM_cons] at hx
        cases hx1 : DataW.trod enc P w base spare held fuel e ((cs.drop (k * sz)).take sz) with
        | none => rw [hx1] at hx; simp at hx
        | some y =>
          rw [hx1] at hx
          cases hx2 : (List.range' (k + 1) cnt).mapM fun i => DataW.trod enc P w base spare held fuel e ((cs.drop (i * sz)).take sz) with
          | none => rw [hx2] at hx; simp at hx
          | some ys =>
            obtain ⟨a, q1, q2⟩ := hf.out enc w base spare held fuel _ y.1 y.2 hx1
            obtain ⟨l, q0, q3, q4⟩ := ih (k + 1) ys hx2
            have hsplit : (cs.drop (k * sz)).take ((cnt + 1) * sz) = (cs.drop (k * sz)).take sz ++ (cs.drop ((k + 1) * sz)).take (cnt * sz) := by
              rw [show (cnt + 1) * sz = sz + cnt * sz by rw [Nat.add_mul]; omega, List.take_add, List.drop_drop, Nat.add_mul, Nat.one_mul]
            refine ⟨a :: l, by simp [q0], ?_, ?_⟩
            · rw [hsplit, List.flatMap_cons]
              exact q1.append q3
            · rw [hsplit]
              exact fun u hu => (List.mem_append.1 hu).elim (q2 u) (q4 u)
    have key : ∀ cs : List Value, (if cs.length = P.cellsOf t then ((List.range m).mapM fun i => DataW.trod enc P w base spare held fuel e ((cs.drop (i * P.cellsOf e)).take (P.cellsOf e))).map fun xs => ((.agg (xs.map (·.1)) : DataW _), xs.flatMap (·.2)) else none) = some (d, p) → ∃ a : {l : List α // l.length = m}, ListR (memOf w) (a.1.flatMap f) cs ∧ OneAll cs := fun cs h => by
      split at h <;> first | (cases h; done) | skip
      rename_i hcl
      simp only [Option.map_eq_some_iff] at h
      obtain ⟨xs, hx, h⟩ := h
      rw [List.range_eq_range', hsz] at hx
      obtain ⟨l, q0, q1, q2⟩ := go cs m 0 xs hx
      rw [Nat.zero_mul, List.drop_zero, ← hn, ← hcl, List.take_length] at q1 q2
      exact ⟨⟨l, q0⟩, q1, q2⟩
    split at hd <;> first | (simp at hd; done) | (rename_i hx; cases hx; done) | skip
    all_goals first | (cases hd; done) | (rename_i hx; cases hx; exact key _ hd) | (simp at hd; done) | (exfalso; simp_all; done)

/-! ### arguments -/
theorem Reads.one {t : TypeId} {α : Type} {f : α → RV} (h : Reads P t (fun a => [f a])) {H : Type} {enc : TypeId × Value → H} {W : World} {base : Nat} {spare : Nat → Bool} {held : Bool} {v : Value} {d : DataW H} {p : List MemPlace} (hv : v.cells = #[v]) (hd : DataW.Trod enc P W base spare held t v d p) : ∃ a, VRr (memOf W) (f a) v := by
  obtain ⟨n, hn⟩ := hd
  obtain ⟨a, h1, _⟩ := h.out enc W base spare held n _ d p hn
  rw [hv] at h1
  simp only [ListR] at h1
  obtain ⟨c, cs, e, h2, h3⟩ := h1
  simp at e
  rw [e.1]
  exact ⟨a, h2⟩
theorem Reads.agg {t : TypeId} {α : Type} {f : α → List RV} (h : Reads P t f) {H : Type} {enc : TypeId × Value → H} {W : World} {base : Nat} {spare : Nat → Bool} {held : Bool} {cs : Array Value} {d : DataW H} {p : List MemPlace} (hd : DataW.Trod enc P W base spare held t (.agg cs) d p) : ∃ a, VRr (memOf W) (.agg (f a)) (.agg cs) := by
  obtain ⟨n, hn⟩ := hd
  obtain ⟨a, h1, h2⟩ := h.out enc W base spare held n _ d p hn
  refine ⟨a, ?_⟩
  simp only [VRr]
  exact ⟨cs.toList, by simp, h1, h2⟩
end Go.PM

set_option linter.unusedSectionVars false
namespace Go.PM.Try
open Go.Proofs
variable [LoopCodes]
set_option maxRecDepth 100000
theorem cells2 : Try.prog.cellsOf 2 = 1 := by kernel_rfl
theorem cells3 : Try.prog.cellsOf 3 = 1 := by kernel_rfl
theorem cells4 : Try.prog.cellsOf 4 = 1 := by kernel_rfl
theorem cells9 : Try.prog.cellsOf 9 = 1 := by kernel_rfl
theorem cells51 : Try.prog.cellsOf 51 = 1 := by kernel_rfl
theorem cells132 : Try.prog.cellsOf 132 = 2 := by kernel_rfl
theorem cells54 : Try.prog.cellsOf 54 = 1 := by kernel_rfl
theorem cells122 : Try.prog.cellsOf 122 = 3 := by kernel_rfl
theorem cells56 : Try.prog.cellsOf 56 = 1 := by kernel_rfl
theorem cells55 : Try.prog.cellsOf 55 = 2 * 1 := by kernel_rfl
theorem cells55' : Try.prog.cellsOf 55 = 2 := cells55
theorem cells23' : Try.prog.cellsOf 23 = 6 := by kernel_rfl
theorem cells58 : Try.prog.cellsOf 58 = 11 := by kernel_rfl
theorem cells42 : Try.prog.cellsOf 42 = 1 := by kernel_rfl
theorem cells64 : Try.prog.cellsOf 64 = 4 := by kernel_rfl
theorem cells47 : Try.prog.cellsOf 47 = 3 := by kernel_rfl
theorem cells24 : Try.prog.cellsOf 24 = 1 := by kernel_rfl
theorem cells23 : Try.prog.cellsOf 23 = 6 * 1 := by kernel_rfl
theorem cells26 : Try.prog.cellsOf 26 = 7 := by kernel_rfl
theorem rd2 : Reads Try.prog 2 encI := Reads.map (reads_int Try.underlying2) (·.1) fun _ => rfl
theorem rd3 : Reads Try.prog 3 encI := Reads.map (reads_int Try.underlying3) (·.1) fun _ => rfl
theorem rd4 : Reads Try.prog 4 (fun b : Bool => [.bool b]) := reads_bool Try.underlying4
theorem rd9 : Reads Try.prog 9 encS := reads_str Try.underlying9
theorem rd51 : Reads Try.prog 51 (fun s : Sl ByteArray => [s.enc 1 encS]) := reads_slice Try.underlying51 (by decide) cells9 (fun _ => rfl) rd9
theorem rd132 : Reads Try.prog 132 Whn.enc := by
  refine Reads.map (reads_struct Try.underlying132 cells132 (fun _ => rfl) (readsF_cons rfl cells3 rd3 (fun _ => rfl) (readsF_cons rfl cells2 rd2 (fun _ => rfl) (readsF_nil _)))) (fun x : Int × Int × Unit => ⟨x.1, x.2.1⟩) ?_
  intro _; rfl
theorem rd54 : Reads Try.prog 54 (fun s : Sl Whn => [s.enc 2 Whn.enc]) := reads_slice Try.underlying54 (by decide) cells132 (fun _ => rfl) rd132
theorem rd122 : Reads Try.prog 122 Cnt.enc := by
  refine Reads.map (reads_struct Try.underlying122 cells122 (fun _ => rfl) (readsF_cons rfl cells9 rd9 (fun _ => rfl) (readsF_cons rfl cells2 rd2 (fun _ => rfl) (readsF_cons rfl cells2 rd2 (fun _ => rfl) (readsF_nil _))))) (fun x : ByteArray × Int × Int × Unit => ⟨x.1, x.2.1, x.2.2.1⟩) ?_
  intro _; rfl
theorem rd56 : Reads Try.prog 56 (fun s : Sl Cnt => [s.enc 3 Cnt.enc]) := reads_slice Try.underlying56 (by decide) cells122 (fun _ => rfl) rd122
theorem rd55 : Reads Try.prog 55 (fun p : Int × Int => [.int .i64 p.1, .int .i64 p.2]) :=
  Reads.map (reads_array Try.underlying55 cells2 (fun _ => rfl) cells55 rd2) (fun l => (l.1.getD 0 0, l.1.getD 1 0)) fun ⟨l, hl⟩ => match l, hl with
    | [_, _], _ => rfl
theorem rd23 : Reads Try.prog 23 Siz.enc :=
  Reads.map (reads_array Try.underlying23 cells2 (fun _ => rfl) cells23 rd2) (fun l => ⟨l.1.getD 0 0, l.1.getD 1 0, l.1.getD 2 0, l.1.getD 3 0, l.1.getD 4 0, l.1.getD 5 0⟩) fun ⟨l, hl⟩ => match l, hl with
    | [_, _, _, _, _, _], _ => rfl
theorem rd58 : Reads Try.prog 58 Rul.enc := by
  refine Reads.map (reads_struct Try.underlying58 cells58 (fun _ => rfl) (readsF_cons rfl cells9 rd9 (fun _ => rfl) (readsF_cons rfl cells51 rd51 (fun _ => rfl) (readsF_cons rfl cells54 rd54 (fun _ => rfl) (readsF_cons (sz := 2) rfl cells55' rd55 (fun _ => rfl)
    (readsF_cons rfl cells3 rd3 (fun _ => rfl) (readsF_cons (sz := 2) rfl cells55' rd55 (fun _ => rfl) (readsF_cons rfl cells4 rd4 (fun _ => rfl) (readsF_cons rfl cells56 rd56 (fun _ => rfl) (readsF_cons rfl cells2 rd2 (fun _ => rfl) (readsF_nil _)))))))))))
    (fun x : ByteArray × Sl ByteArray × Sl Whn × (Int × Int) × Int × (Int × Int) × Bool × Sl Cnt × Int × Unit => ⟨x.1, x.2.1, x.2.2.1, x.2.2.2.1.1, x.2.2.2.1.2, x.2.2.2.2.1, x.2.2.2.2.2.1.1, x.2.2.2.2.2.1.2, x.2.2.2.2.2.2.1, x.2.2.2.2.2.2.2.1, x.2.2.2.2.2.2.2.2.1⟩) ?_
  intro _; rfl
theorem rd42 : Reads Try.prog 42 (fun s : Sl Rul => [s.enc 11 Rul.enc]) := reads_slice Try.underlying42 (by decide) cells58 (fun _ => rfl) rd58
theorem rd64 : Reads Try.prog 64 Aut.enc := by
  refine Reads.map (reads_struct Try.underlying64 cells64 (fun _ => rfl) (readsF_cons rfl cells9 rd9 (fun _ => rfl) (readsF_cons rfl cells2 rd2 (fun _ => rfl) (readsF_cons rfl cells2 rd2 (fun _ => rfl) (readsF_cons rfl cells42 rd42 (fun _ => rfl) (readsF_nil _))))))
    (fun x : ByteArray × Int × Int × Sl Rul × Unit => ⟨x.1, x.2.1, x.2.2.1, x.2.2.2.1⟩) ?_
  intro _; rfl
theorem rd22 : Reads Try.prog 22 (fun s : Sl Aut => [s.enc 4 Aut.enc]) := reads_slice Try.underlying22 (by decide) cells64 (fun _ => rfl) rd64
theorem rd47 : Reads Try.prog 47 Pas.enc := by
  refine Reads.map (reads_struct Try.underlying47 cells47 (fun _ => rfl) (readsF_cons rfl cells9 rd9 (fun _ => rfl) (readsF_cons rfl cells9 rd9 (fun _ => rfl) (readsF_cons rfl cells2 rd2 (fun _ => rfl) (readsF_nil _)))))
    (fun x : ByteArray × ByteArray × Int × Unit => ⟨x.1, x.2.1, x.2.2.1⟩) ?_
  intro _; rfl
theorem rd24 : Reads Try.prog 24 (fun s : Sl Pas => [s.enc 3 Pas.enc]) := reads_slice Try.underlying24 (by decide) cells47 (fun _ => rfl) rd47
theorem rd26 : Reads Try.prog 26 Trp.enc := by
  refine Reads.map (reads_struct Try.underlying26 cells26 (fun _ => rfl) (readsF_cons (sz := 6) rfl cells23' rd23 (fun _ => rfl) (readsF_cons rfl cells24 rd24 (fun _ => rfl) (readsF_nil _)))) (fun x : Siz × Sl Pas × Unit => ⟨x.1, x.2.1⟩) ?_
  intro _; rfl
end Go.PM.Try

set_option linter.unusedSectionVars false
namespace Go.PM
variable [LoopCodes]
open Go.Proofs

theorem try_names : ∀ (g : FuncId) (fn : Func), Try.prog.funcs[g]? = some fn → (fn.name == "runtime.NumGoroutine") = false := fun g fn h => by
  have hall : (Try.prog.funcs.toList.all fun fn => !(fn.name == "runtime.NumGoroutine")) = true := by kernel_rfl
  have := List.all_eq_true.1 hall fn (Array.mem_toList_iff.2 (Array.mem_of_getElem? h))
  simpa using this

theorem try_orders : Try.prog.follows .mixedOrders = true := by kernel_rfl

end Go.PM

set_option linter.unusedSectionVars false
namespace Go.PM.Try
open Go.Proofs
theorem flat1 {k : IntKind} {ks : List IntKind} {a : List RV} (h : flatCells (k :: ks) a = true) : ∃ x r, a = .int k x :: r ∧ flatCells ks r = true := by
  cases a with
  | nil => cases h
  | cons v r =>
    cases v <;> first | (cases h; done) | skip
    rename_i k' x
    simp only [flatCells, Bool.and_eq_true, decide_eq_true_eq] at h
    obtain ⟨rfl, h⟩ := h
    exact ⟨x, r, rfl, h⟩
theorem flat0 {a : List RV} (h : flatCells [] a = true) : a = [] := by
  cases a with
  | nil => rfl
  | cons v r => cases h
theorem flat3 {a : List RV} (h : flatCells [.i64, .i64, .i64] a = true) : ∃ x y z, a = [.int .i64 x, .int .i64 y, .int .i64 z] := by
  obtain ⟨x, r1, rfl, h1⟩ := flat1 h
  obtain ⟨y, r2, rfl, h2⟩ := flat1 h1
  obtain ⟨z, r3, rfl, h3⟩ := flat1 h2
  obtain rfl := flat0 h3
  exact ⟨x, y, z, rfl⟩
theorem flat2 {a : List RV} (h : flatCells [.i64, .i64] a = true) : ∃ x y, a = [.int .i64 x, .int .i64 y] := by
  obtain ⟨x, r1, rfl, h1⟩ := flat1 h
  obtain ⟨y, r2, rfl, h2⟩ := flat1 h1
  obtain rfl := flat0 h2
  exact ⟨x, y, rfl⟩
theorem kinds102 : flatKinds Try.prog 102 = some [.i64, .i64, .i64] := by kernel_rfl
theorem kinds76 : flatKinds Try.prog 76 = some [.i64, .i64] := by kernel_rfl
theorem fields102 : Try.prog.underlying 102 = some (.struct (Try.prog.fieldsOf 102)) := by kernel_rfl
theorem fields76 : Try.prog.underlying 76 = some (.struct (Try.prog.fieldsOf 76)) := by kernel_rfl
theorem held102 : Try.prog.stoodInHeld 102 = false := by kernel_rfl
theorem held76 : Try.prog.stoodInHeld 76 = false := by kernel_rfl
theorem guard102 : Try.prog.eqGuardType Try.prog.depth 102 = false := by kernel_rfl
theorem guard76 : Try.prog.eqGuardType Try.prog.depth 76 = false := by kernel_rfl
theorem flatEq_some {P : Program} {t : TypeId} {ks : List IntKind} (hk : flatKinds P t = some ks) {a b : List RV} {c : Bool} (h : flatEq P t a b = some c) : flatCells ks a = true ∧ flatCells ks b = true ∧ rvEqAll a b = some c := by
  unfold flatEq flatOK at h
  rw [hk] at h
  simp only at h
  cases ha : flatCells ks a <;> cases hb : flatCells ks b <;> rw [ha, hb] at h <;> simp at h
  exact ⟨rfl, rfl, h⟩
variable [LoopCodes]
theorem eq102 (m : Mem) (a b : List RV) (c : Bool) (xs ys : List Value) (w : World) (X Y : Operand) (h : flatEq Try.prog 102 a b = some c) (ha : ListR m a xs) (hb : ListR m b ys) :
    (do eqGuard .eql 102 X Y (.agg xs.toArray) (.agg ys.toArray); binOp .eql 102 (.agg xs.toArray) (.agg ys.toArray) : Sem Value).run Try.prog w = .ok (.bool c) w ∧
    (do eqGuard .neq 102 X Y (.agg xs.toArray) (.agg ys.toArray); binOp .neq 102 (.agg xs.toArray) (.agg ys.toArray) : Sem Value).run Try.prog w = .ok (.bool (!c)) w := by
  obtain ⟨h1, h2, h3⟩ := flatEq_some kinds102 h
  obtain ⟨x1, x2, x3, rfl⟩ := flat3 h1
  obtain ⟨y1, y2, y3, rfl⟩ := flat3 h2
  simp only [ListR, VRr] at ha hb
  obtain ⟨_, _, rfl, rfl, _, _, rfl, rfl, _, _, rfl, rfl, rfl⟩ := ha
  obtain ⟨_, _, rfl, rfl, _, _, rfl, rfl, _, _, rfl, rfl, rfl⟩ := hb
  simp only [Sem.run_bind, run_eqGuard_agg w _ _ _ _ _ _ guard102, Result.andThen_ok, run_eql_struct, run_neq_struct, run_equalIn_agg w 9999 102 _ _ fields102 held102]
  have key : (Op.eqFields 9999 #[.int .i64 x1, .int .i64 x2, .int .i64 x3] #[.int .i64 y1, .int .i64 y2, .int .i64 y3] (Try.prog.fieldsOf 102).toList).run Try.prog w = .ok c w := by
    have p3 : ∀ (zs : Array Value) (o : Nat) (v : Value), zs[o]? = some v → (part 3 zs o).run Try.prog w = .ok v w := fun zs o v hz => run_part_plain w (by kernel_rfl) hz
    have e3 : ∀ x y : Int, (Op.equalIn 9999 3 (.int .i64 x) (.int .i64 y)).run Try.prog w = .ok (x == y) w := fun x y => run_equalIn_int w 9998 3 .i64 .i64 x y Try.underlying3
    simp only [rvEqAll, rvEq, decide_true, Option.some.injEq] at h3
    subst h3
    unfold Program.fieldsOf
    rw [Try.underlying102]
    simp only [Op.eqFields, Sem.run_bind, Sem.run_ite, p3 #[.int .i64 x1, .int .i64 x2, .int .i64 x3] 0 (.int .i64 x1) rfl, p3 #[.int .i64 x1, .int .i64 x2, .int .i64 x3] 1 (.int .i64 x2) rfl, p3 #[.int .i64 x1, .int .i64 x2, .int .i64 x3] 2 (.int .i64 x3) rfl, p3 #[.int .i64 y1, .int .i64 y2, .int .i64 y3] 0 (.int .i64 y1) rfl, p3 #[.int .i64 y1, .int .i64 y2, .int .i64 y3] 1 (.int .i64 y2) rfl, p3 #[.int .i64 y1, .int .i64 y2, .int .i64 y3] 2 (.int .i64 y3) rfl, Result.andThen_ok, e3]
    by_cases c1 : x1 = y1 <;> by_cases c2 : x2 = y2 <;> by_cases c3 : x3 = y3 <;> simp [c1, c2, c3, Sem.run_pure]
  rw [key]
  exact ⟨rfl, rfl⟩
theorem eq76 (m : Mem) (a b : List RV) (c : Bool) (xs ys : List Value) (w : World) (X Y : Operand) (h : flatEq Try.prog 76 a b = some c) (ha : ListR m a xs) (hb : ListR m b ys) :
    (do eqGuard .eql 76 X Y (.agg xs.toArray) (.agg ys.toArray); binOp .eql 76 (.agg xs.toArray) (.agg ys.toArray) : Sem Value).run Try.prog w = .ok (.bool c) w ∧
    (do eqGuard .neq 76 X Y (.agg xs.toArray) (.agg ys.toArray); binOp .neq 76 (.agg xs.toArray) (.agg ys.toArray) : Sem Value).run Try.prog w = .ok (.bool (!c)) w := by
  obtain ⟨h1, h2, h3⟩ := flatEq_some kinds76 h
  obtain ⟨x1, x2, rfl⟩ := flat2 h1
  obtain ⟨y1, y2, rfl⟩ := flat2 h2
  simp only [ListR, VRr] at ha hb
  obtain ⟨_, _, rfl, rfl, _, _, rfl, rfl, rfl⟩ := ha
  obtain ⟨_, _, rfl, rfl, _, _, rfl, rfl, rfl⟩ := hb
  simp only [Sem.run_bind, run_eqGuard_agg w _ _ _ _ _ _ guard76, Result.andThen_ok, run_eql_struct, run_neq_struct, run_equalIn_agg w 9999 76 _ _ fields76 held76]
  have key : (Op.eqFields 9999 #[.int .i64 x1, .int .i64 x2] #[.int .i64 y1, .int .i64 y2] (Try.prog.fieldsOf 76).toList).run Try.prog w = .ok c w := by
    have p3 : ∀ (zs : Array Value) (o : Nat) (v : Value), zs[o]? = some v → (part 2 zs o).run Try.prog w = .ok v w := fun zs o v hz => run_part_plain w (by kernel_rfl) hz
    have e3 : ∀ x y : Int, (Op.equalIn 9999 2 (.int .i64 x) (.int .i64 y)).run Try.prog w = .ok (x == y) w := fun x y => run_equalIn_int w 9998 2 .i64 .i64 x y Try.underlying2
    simp only [rvEqAll, rvEq, decide_true, Option.some.injEq] at h3
    subst h3
    unfold Program.fieldsOf
    rw [Try.underlying76]
    simp only [Op.eqFields, Sem.run_bind, Sem.run_ite, p3 #[.int .i64 x1, .int .i64 x2] 0 (.int .i64 x1) rfl, p3 #[.int .i64 x1, .int .i64 x2] 1 (.int .i64 x2) rfl, p3 #[.int .i64 y1, .int .i64 y2] 0 (.int .i64 y1) rfl, p3 #[.int .i64 y1, .int .i64 y2] 1 (.int .i64 y2) rfl, Result.andThen_ok, e3]
    by_cases c1 : x1 = y1 <;> by_cases c2 : x2 = y2 <;> simp [c1, c2, Sem.run_pure]
  rw [key]
  exact ⟨rfl, rfl⟩
theorem eqOK : EqOK Try.prog hh := fun t ht m a b c xs ys w X Y h ha hb => by
  have ht' : t = 102 ∨ t = 76 := by simpa [hh] using ht
  rcases ht' with rfl | rfl
  · exact eq102 m a b c xs ys w X Y h ha hb
  · exact eq76 m a b c xs ys w X Y h ha hb
end Go.PM.Try

set_option linter.unusedSectionVars false
namespace Go.PM.Try
open Go.Proofs Go.ChangeShapes Go.WideShapes Go.RowKit
theorem laidOut : laidOutB Try.prog = true := by kernel_rfl
theorem own : ownKnob Try.prog.godebug = none := by kernel_rfl
@[reducible] noncomputable def codes : LoopCodes := ⟨loopAt Try.prog⟩
@[reducible] noncomputable def callsAre (R : Type) : CCW R := ⟨pmCalls Try.prog hh (fun _ => none), rfl⟩
/-- The laws' parameters' types. -/
theorem readable {t : TypeId} (h : t = 22 ∨ t = 26) : Try.prog.readableRec t = true ∧ t < Try.prog.types.size := by
  rcases h with rfl | rfl
  · exact ⟨by kernel_rfl, of_decide_eq_true (by kernel_rfl)⟩
  · exact ⟨by kernel_rfl, of_decide_eq_true (by kernel_rfl)⟩
def answer : PV → Option LB → Frames → Option RV := fun v _ _ => match v with
  | .s (.ro v) => some v
  | _ => none
set_option maxRecDepth 100000 in
/-- What a walk answers, the program answers. -/
theorem law_calls {n : Nat} {f : FuncId} {args : List RV} (hw : ∀ [Stops RV] [CCW RV], (CC n).fn f (args.map PV.ro) [] (answer) = some (RV.bool true)) {W : World} {cs : List Value} (hargs : ListR (memOf W) args cs) :
    Calls Try.prog f cs.toArray W fun e W' => ∃ v, e = .returned v ∧ v = .bool true ∧ Below W.heap.size W W' := by
  letI := codes
  letI := Stops.are RV
  letI := callsAre RV
  have h := hw
  rw [CC_eq] at h
  refine (pm_calls (hh := hh) (ext := fun _ => none) try_orders eqOK try_names (fun f F e => by cases e) (fun f k => rfl) (rv := .bool true) (m := memOf W) h (fun b o c h => h) hargs).mono ?_
  rintro e W' ⟨c, m', rfl, hs, _, hr⟩
  exact ⟨c, rfl, hr, hs.below⟩
theorem u16_lo {n : Int} (h : (Lit.int .u16 n).wf = true) : 0 ≤ n := by
  simp only [Lit.wf, Bool.and_eq_true, decide_eq_true_eq] at h
  have e : IntKind.u16.min = 0 := rfl
  omega
theorem u16_hi {n : Int} (h : (Lit.int .u16 n).wf = true) : n ≤ 65535 := by
  simp only [Lit.wf, Bool.and_eq_true, decide_eq_true_eq] at h
  have e : IntKind.u16.max = 65535 := rfl
  omega
end Go.PM.Try

set_option linter.unusedSectionVars false
namespace Go.Proofs.Ytdjioagepenhaaa
open Go.ChangeShapes Go.WideShapes Go.ChangeAt Go.RowKit Go.PM Go.PM.Try
set_option maxRecDepth 100000 in
theorem cures_lifted (os : Os) (started : os.Started) (H : Type) (enc : TypeId × Value → H) :
    ReturnsInHanded {} Try.checked os 8 .any (Rows.permitCuresSpec.pre6 enc Try.prog Try.f8 Rows.permitCuresRow.domain false) (Rows.permitCuresSpec.post enc Try.prog Try.f8 false true false false) := by
  refine returnsInHanded_of_change (C := Try.checked) PM.Try.own started (by kernel_rfl) Try.func8
    (ChangeSpec.witness6 (enc := enc) (C := Try.checked) false ⟨#[], #[.slice none 0 0, .agg #[.int .i64 0, .int .i64 0, .int .i64 0, .int .i64 0, .int .i64 0, .int .i64 0, .slice none 0 0], .int .i64 0], []⟩ 8 (by kernel_rfl) (by kernel_rfl) (by kernel_rfl) (by kernel_rfl)) ?_
  intro W base args ds gs before hval0 hW hcnd _
  have hval : ∀ (j : Nat) t v, Try.f8.params[j]? = some t → args[j]? = some v → Value.okWide Try.prog W .any base t v := hval0
  have hW' := hW
  obtain ⟨p, q, hA0, hV, rfl, hfz, hnd⟩ := hW
  have hA : DataW.TrodAll enc Try.prog W 0 (fun _ => true) true Try.f8.params.toList args.toList ds p := hA0
  rw [Try.params8] at hA hval
  obtain ⟨v0, vs0, d0, ds0, p0, q0, hargs, rfl, rfl, h0, r0⟩ := trodAll_cons hA
  obtain ⟨v1, vs1, d1, ds1, p1, q1, rfl, rfl, rfl, h1, r1⟩ := trodAll_cons r0
  obtain ⟨v2, vs2, d2, ds2, p2, q2, rfl, rfl, rfl, h2, r2⟩ := trodAll_cons r1
  obtain ⟨rfl, rfl, rfl⟩ := trodAll_nil r2
  obtain rfl : args = #[v0, v1, v2] := by cases args; simp_all
  obtain ⟨rfl, rfl⟩ := trodVars_none hV
  letI := codes
  obtain ⟨a0, len0, cap0, rfl⟩ := okWide_slice Try.underlying22 (hval 0 22 v0 rfl rfl)
  obtain ⟨c1, rfl, _⟩ := okWide_struct Try.underlying26 (hval 1 26 v1 rfl rfl)
  obtain ⟨n2, rfl⟩ := okWide_int Try.underlying3 (hval 2 3 v2 rfl rfl)
  obtain ⟨s, k0⟩ := rd22.one rfl h0
  obtain ⟨t, k1⟩ := rd26.agg h1
  obtain ⟨pa, k2⟩ := (reads_int Try.underlying3).one (f := fun x : {n : Int // (Lit.int .i64 n).wf = true} => .int .i64 x.1) rfl h2
  have hl : ListR (memOf W) [s.enc 4 Aut.enc, .agg t.enc, .int .i64 pa.1] [.slice a0 len0 cap0, .agg c1, .int .i64 n2] := by
    simp only [ListR]
    exact ⟨_, _, rfl, k0, _, _, rfl, k1, _, _, rfl, k2, rfl⟩
  have walk := law_calls (n := 21) (f := 8) (args := [s.enc 4 Aut.enc, .agg t.enc, .int .i64 pa.1]) (fun {_ _} => s8 (n := 0) (s := s) (t := t) (p := pa.1) (K := answer) rfl) hl
  refine walk.mono fun e W' ⟨v, he, hv, hb⟩ => ⟨v, he, ?_⟩
  exact post_true PM.Try.laidOut (fun t ht => by
    rw [Try.params8] at ht
    have ht' : t = 22 ∨ t = 26 ∨ t = 3 := by simpa using ht
    rcases ht' with rfl | rfl | rfl
    all_goals exact ⟨by kernel_rfl, of_decide_eq_true (by kernel_rfl)⟩) rfl hW' hb rfl Try.underlying4 hv rfl rfl rfl
theorem cures_proved : Rows.PermitCuresSaid :=
  OpenClaim.holds_of_wide 8 Try.f8 rfl rfl rfl rfl rfl rfl rfl ⟨rfl, rfl, rfl, rfl, rfl⟩ rfl rfl rfl rfl rfl (by kernel_rfl) Try.func8 (by kernel_rfl)
    (of_decide_eq_true (by kernel_rfl)) (by unfold Func.isWrapper; first | (rw [if_pos (by decide +kernel)]; kernel_rfl) | (rw [if_neg (by decide +kernel)]; exact ⟨rfl, rfl⟩))
    (fun os started H enc _ => cures_lifted os started H enc)
end Go.Proofs.Ytdjioagepenhaaa
