/-
  Contracts of the functions that the statement reaches, and the plain laws behind it: this seat's texts Uh, Vd, Uj, Uk, one behind the other.
-/
import Derived.Test.YthmjjbgjbcnjmaaMb5
import Derived.Test.YthmjjbgjbcnjmaaMb3
import Derived.Test.YthmjjbgjbcnjmaaMb4
import Derived.Laws.BitsAllLaws
import Derived.Deep.CutBlock
import Derived.Deep.DeepCutAuto

namespace Go.Proofs.Ythmjjbgjbcnjmaa
open Go.RowKit Go.Hop

/-! ### Rows of schemas -/
def vcells : Value → List Value
  | .agg cs => cs.toList
  | _ => []
structure TabOk (t : Tab) : Prop where
  fit : TabFit t
  len : t.cols.length ≤ 2199023255552 ∧ t.idx.length ≤ 2199023255552
  ilen : ∀ x ∈ t.idx, x.cols.length ≤ 2199023255552
theorem tab_form {w : World} {K : Nat → Prop} {v : Value} {t : Tab} (h : TabAt w K v t) : ∃ A1 c1 A2 c2, v = .agg #[.string t.name, .slice A1 t.cols.length c1, .int .i64 t.key, .slice A2 t.idx.length c2] ∧ t.cols.length ≤ c1 ∧ t.idx.length ≤ c2 := by
  obtain ⟨vc, vi, svs, rfl, hc, hi⟩ := h.ex
  obtain ⟨A1, c1, rfl, z1⟩ := hc.rc.form
  obtain ⟨A2, c2, rfl, z2⟩ := hi.row.rc.form
  exact ⟨A1, c1, A2, c2, rfl, z1, z2⟩
theorem tab_cells {w : World} {K : Nat → Prop} {v : Value} {t : Tab} (h : TabAt w K v t) : (vcells v).length = 4 ∧ ∀ u ∈ vcells v, u.oneCell' = true := by
  obtain ⟨A1, c1, A2, c2, rfl, _⟩ := tab_form h
  refine ⟨rfl, fun u hu => ?_⟩
  simp only [vcells, List.mem_cons, List.not_mem_nil, or_false] at hu
  rcases hu with rfl | rfl | rfl | rfl <;> rfl
/-- cells of element j -/
theorem flat4_at : ∀ (vs : List Value) (j : Nat) (x : Value), (∀ y ∈ vs, (vcells y).length = 4) → vs[j]? = some x → ∀ i, i < 4 → (vs.flatMap vcells)[j * 4 + i]? = (vcells x)[i]?
  | [], _, _, _, h, _, _ => by simp at h
  | y :: vs, 0, x, hl, h, i, hi => by
    simp only [List.getElem?_cons_zero, Option.some.injEq] at h
    subst h
    have := hl y List.mem_cons_self
    rw [List.flatMap_cons, Nat.zero_mul, Nat.zero_add, List.getElem?_append_left (by omega)]
  | y :: vs, j + 1, x, hl, h, i, hi => by
    have h4 := hl y List.mem_cons_self
    have ih := flat4_at vs j x (fun z hz => hl z (List.mem_cons_of_mem _ hz)) (by simpa using h) i hi
    rw [List.flatMap_cons, List.getElem?_append_right (by omega), h4, show (j + 1) * 4 + i - 4 = j * 4 + i by omega]
    exact ih
/-- a row of schemas, its own, whose inner blocks lie in K -/
structure InAt (w : World) (base : Nat) (K : Nat → Prop) (v : Value) (ts : List Tab) : Prop where
  ex : ∃ vs : List Value, vs.length = ts.length ∧ w.ownsRow base 41 4 v ts.length (vs.flatMap vcells) ∧ ∀ (j : Nat) (x : Value) (t : Tab), vs[j]? = some x → ts[j]? = some t → TabAt w K x t
theorem InAt.keep {S K : Nat → Prop} {w w' : World} {base : Nat} {v : Value} {ts : List Tab} (h : InAt w base K v ts) (hf : Fr S w w') (hs : ∀ k, k < w.heap.size → K k → ¬ S k) (hr : ∀ k, v.ownBlock = some k → ¬ S k) : InAt w' base K v ts := by
  obtain ⟨vs, h1, h2, h3⟩ := h.ex
  exact ⟨vs, h1, hf.owns h2 hr, fun j x t hx ht => (h3 j x t hx ht).keep hf hs⟩
theorem InAt.later {K : Nat → Prop} {w w' : World} {base : Nat} {v : Value} {ts : List Tab} (h : InAt w base K v ts) (hf : Fr no w w') : InAt w' base K v ts := h.keep hf (fun _ _ _ q => q) (fun _ _ q => q)
theorem InAt.nil (w : World) (base : Nat) (K : Nat → Prop) : InAt w base K (.slice none 0 0) [] := ⟨[], rfl, World.ownsRow_nil _ _ 41 4, fun j x t hx => by simp at hx⟩
/-- the row's own block is no map's -/
theorem InAt.notMap {K : Nat → Prop} {w : World} {base m : Nat} {v : Value} {ts : List Tab} {al : List (ByteArray × Value)} (h : InAt w base K v ts) (hm : MapIs w m al) : v.ownBlock ≠ some m := by
  intro q
  obtain ⟨vs, h1, h2, h3⟩ := h.ex
  obtain ⟨es, ck, hb, _⟩ := hm
  rcases h2.2 with ⟨rfl, _⟩ | ⟨g, cap, cur, rfl, _, hg, _⟩
  · cases q
  · injection q with q; subst q
    rw [hg] at hb; cases hb
theorem InAt.at_ {K : Nat → Prop} {w : World} {base : Nat} {v : Value} {ts : List Tab} (h : InAt w base K v ts) {j : Nat} {t : Tab} (ht : ts[j]? = some t) :
    ∃ g cap A1 c1 A2 c2, v = .slice (some ⟨g, 0, none⟩) ts.length cap ∧ TabAt w K (.agg #[.string t.name, .slice A1 t.cols.length c1, .int .i64 t.key, .slice A2 t.idx.length c2]) t ∧
      w.cell? ⟨g, j * 4, none⟩ = some (.string t.name) ∧ w.cell? ⟨g, j * 4 + 1, none⟩ = some (.slice A1 t.cols.length c1) ∧ w.cell? ⟨g, j * 4 + 2, none⟩ = some (.int .i64 t.key) ∧ w.cell? ⟨g, j * 4 + 3, none⟩ = some (.slice A2 t.idx.length c2) ∧ ts.length ≤ cap := by
  obtain ⟨vs, h1, h2, h3⟩ := h.ex
  have hjl : j < ts.length := (List.getElem?_eq_some_iff.1 ht).1
  obtain ⟨x, hx⟩ : ∃ x, vs[j]? = some x := ⟨_, List.getElem?_eq_getElem (by omega)⟩
  have hT := h3 j x t hx ht
  obtain ⟨A1, c1, A2, c2, rfl, _⟩ := tab_form hT
  obtain ⟨g, cap, rfl, _, _, hc⟩ := owns_form h2 (by omega)
  have hall : ∀ y ∈ vs, (vcells y).length = 4 := fun y hy => by
    obtain ⟨i, hi⟩ := List.getElem?_of_mem hy
    have hil : i < vs.length := (List.getElem?_eq_some_iff.1 hi).1
    exact (tab_cells (h3 i y ts[i] hi (List.getElem?_eq_getElem (by omega)))).1
  have f := flat4_at vs j _ hall hx
  exact ⟨g, cap, A1, c1, A2, c2, rfl, hT, owns_at h2 (f 0 (by omega)), owns_at h2 (f 1 (by omega)), owns_at h2 (f 2 (by omega)), owns_at h2 (f 3 (by omega)), hc⟩
theorem InAt.own {K : Nat → Prop} {w : World} {base : Nat} {v : Value} {ts : List Tab} (h : InAt w base K v ts) : (∃ A c, v = .slice A ts.length c) ∧ ∀ k, v.ownBlock = some k → base ≤ k ∧ k < w.heap.size := by
  obtain ⟨vs, h1, h2, h3⟩ := h.ex
  exact ⟨owns_slice h2, h2.lt⟩
/-- one schema more -/
theorem InAt.snoc {K : Nat → Prop} {w w0 w1 : World} {base : Nat} {v v' x : Value} {ts : List Tab} {t : Tab} {vs : List Value} (h1 : vs.length = ts.length) (h3 : ∀ (j : Nat) (y : Value) (u : Tab), vs[j]? = some y → ts[j]? = some u → TabAt w K y u) (hx : TabAt w K x t)
    (hf : Fr no w w0) (hK : ∀ k, k < w.heap.size → K k → v.ownBlock ≠ some k) (ho : w1.ownsRow base 41 4 v' (ts.length + 1) (vs.flatMap vcells ++ vcells x)) (hg : w0.grownBy w1 v.ownBlock) : InAt w1 base K v' (ts ++ [t]) := by
  have kp : ∀ {y u}, TabAt w K y u → TabAt w1 K y u := fun {y u} q => by
    obtain ⟨vc, vi, svs, rfl, q1, q2⟩ := q.ex
    have hz : Fr (fun k => some k = v.ownBlock) w w1 := (hf.mono (fun _ _ q => q.elim)).trans (Fr.grown hg) (fun _ _ q => q)
    exact q.keep hz (fun k hk hkk z => hK k hk hkk z.symm)
  refine ⟨vs ++ [x], by simp [h1], ?_, fun j y u hy hu => ?_⟩
  · simpa using ho
  · by_cases hj : j < vs.length
    · rw [List.getElem?_append_left hj] at hy
      rw [List.getElem?_append_left (by omega)] at hu
      exact kp (h3 j y u hy hu)
    · have hj2 : j = vs.length := by
        have := (List.getElem?_eq_some_iff.1 hy).1
        simp at this; omega
      subst hj2
      rw [List.getElem?_append_right (Nat.le_refl _)] at hy
      rw [h1, List.getElem?_append_right (Nat.le_refl _)] at hu
      simp at hy hu
      subst hy hu
      exact kp hx

/-! ### The schemas that came in -/
/-- n schemas at an address that came in -/
structure TabsIn (w : World) (A : Option Addr) (n : Nat) (ts : List Tab) : Prop where
  len : ts.length = n
  ok : ∀ t ∈ ts, TabOk t
  at_ : ∀ (i : Nat) (t : Tab), ts[i]? = some t → ∃ b off A1 c1 A2 c2, A = some ⟨b, off, none⟩ ∧ b < w.heap.size ∧ TabAt w (fun k => k < w.heap.size) (.agg #[.string t.name, .slice A1 t.cols.length c1, .int .i64 t.key, .slice A2 t.idx.length c2]) t ∧
    w.cell? ⟨b, off + i * 4, none⟩ = some (.string t.name) ∧ w.cell? ⟨b, off + i * 4 + 1, none⟩ = some (.slice A1 t.cols.length c1) ∧ w.cell? ⟨b, off + i * 4 + 2, none⟩ = some (.int .i64 t.key) ∧ w.cell? ⟨b, off + i * 4 + 3, none⟩ = some (.slice A2 t.idx.length c2)

/-! ### Which are taken -/
def seenB (n : ByteArray) (l : List ByteArray) : Bool := l.any (fun x => decide (x = n))
theorem seenB_iff (n : ByteArray) (l : List ByteArray) : seenB n l = true ↔ n ∈ l := by
  simp [seenB]
def pstep (d : ByteArray) (p : List ByteArray × List Tab) (t : Tab) : List ByteArray × List Tab := (p.1 ++ [t.name], if seenB t.name p.1 = true ∨ t.name = d then p.2 else p.2 ++ [t])
def pfold (d : ByteArray) (ts : List Tab) : List ByteArray × List Tab := ts.foldl (pstep d) ([], [])
theorem pfold_snoc (d : ByteArray) (ts : List Tab) (t : Tab) : pfold d (ts ++ [t]) = pstep d (pfold d ts) t := by simp [pfold, List.foldl_append]
theorem pfold_step (d : ByteArray) (ts : List Tab) (k : Nat) (t : Tab) (h : ts[k]? = some t) : pfold d (ts.take (k + 1)) = pstep d (pfold d (ts.take k)) t := by
  rw [List.take_add_one, h]; exact pfold_snoc d _ t
theorem pfold_ok (d : ByteArray) (ts : List Tab) : ∀ k, (pfold d (ts.take k)).2.length ≤ k ∧ ((pfold d (ts.take k)).2.map Tab.name).Nodup ∧ (∀ t ∈ (pfold d (ts.take k)).2, t ∈ ts ∧ t.name ≠ d ∧ t.name ∈ (pfold d (ts.take k)).1) := by
  intro k
  induction k with
  | zero => simp [pfold]
  | succ k ih =>
    by_cases hk : k < ts.length
    · obtain ⟨t, ht⟩ : ∃ t, ts[k]? = some t := ⟨_, List.getElem?_eq_getElem hk⟩
      obtain ⟨i1, i2, i3⟩ := ih
      rw [pfold_step d ts k t ht]
      unfold pstep
      simp only
      split
      · exact ⟨by omega, i2, fun u hu => ⟨(i3 u hu).1, (i3 u hu).2.1, List.mem_append_left _ (i3 u hu).2.2⟩⟩
      · next q =>
        refine ⟨by simp; omega, ?_, fun u hu => ?_⟩
        · rw [List.map_append, List.nodup_append]
          refine ⟨i2, by simp, fun a ha b hb e => ?_⟩
          simp at hb
          subst hb
          obtain ⟨u, hu, rfl⟩ := List.mem_map.1 ha
          exact q (.inl ((seenB_iff _ _).2 (e ▸ (i3 u hu).2.2)))
        · rcases List.mem_append.1 hu with hu | hu
          · exact ⟨(i3 u hu).1, (i3 u hu).2.1, List.mem_append_left _ (i3 u hu).2.2⟩
          · simp at hu
            subst hu
            exact ⟨List.mem_of_getElem? ht, fun e => q (.inr e), by simp⟩
    · rw [List.take_of_length_le (by omega)] at ih ⊢
      exact ⟨by omega, ih.2⟩
def extraT (d : ByteArray) : Tab := ⟨d, [(⟨#[97]⟩, 2)], 1, []⟩
theorem extraT_ok {d : ByteArray} (h : d.size ≤ 140737488351232) : TabOk (extraT d) :=
  ⟨⟨h, by simp [extraT], by simp [extraT], by simp [extraT], by intro p hp; simp [extraT] at hp; subst hp; decide, by intro x hx; simp [extraT] at hx⟩, by simp [extraT], by intro x hx; simp [extraT] at hx⟩

theorem createAll_snoc (c : Cat) (l : List Tab) (t : Tab) : createAll c (l ++ [t]) = (ccreate (createAll c l) t).2 := by simp [createAll, List.foldl_append]
theorem createAll_step (c : Cat) (l : List Tab) (k : Nat) (t : Tab) (h : l[k]? = some t) : createAll c (l.take (k + 1)) = (ccreate (createAll c (l.take k)) t).2 := by
  rw [List.take_add_one, h]; exact createAll_snoc c _ t
theorem createAll_down (c : Cat) (l : List Tab) (k : Nat) (t : Tab) (h : l[k]? = some t) : createAll c (l.drop k).reverse = (ccreate (createAll c (l.drop (k + 1)).reverse) t).2 := by
  have hk := (List.getElem?_eq_some_iff.1 h).1
  have : l.drop k = t :: l.drop (k + 1) := by
    rw [List.drop_eq_getElem_cons hk]
    congr 1
    exact (List.getElem?_eq_some_iff.1 h).2
  rw [this, List.reverse_cons]
  exact createAll_snoc c _ t
/-! ### Two catalogues side by side -/
structure TwoC (W w : World) (B a1 m1 a2 m2 : Nat) (c1 c2 : Cat) : Prop where
  fr : Fr no W w
  c1 : IsC w (fun k => B ≤ k) a1 m1 c1
  c2 : IsC w (fun k => B ≤ k) a2 m2 c2
  lo : W.heap.size ≤ a1 ∧ W.heap.size ≤ m1 ∧ W.heap.size ≤ a2 ∧ W.heap.size ≤ m2
  hi : a1 < B ∧ m1 < B ∧ a2 < B ∧ m2 < B ∧ B ≤ w.heap.size
  ne : a1 ≠ m2 ∧ a2 ≠ m1 ∧ m1 ≠ m2
theorem TwoC.later {W w w' : World} {B a1 m1 a2 m2 : Nat} {c1 c2 : Cat} (h : TwoC W w B a1 m1 a2 m2 c1 c2) (hf : Fr no w w') : TwoC W w' B a1 m1 a2 m2 c1 c2 :=
  ⟨h.fr.trans hf (fun _ _ q => q), h.c1.later hf, h.c2.later hf, h.lo, ⟨h.hi.1, h.hi.2.1, h.hi.2.2.1, h.hi.2.2.2.1, Nat.le_trans h.hi.2.2.2.2 hf.size⟩, h.ne⟩
theorem TwoC.one {W w w' : World} {B a1 m1 a2 m2 : Nat} {c1 c2 c1' : Cat} (h : TwoC W w B a1 m1 a2 m2 c1 c2) (hf : Fr (fun k => k = m1) w w') (hc : IsC w' (fun k => B ≤ k) a1 m1 c1') : TwoC W w' B a1 m1 a2 m2 c1' c2 := by
  obtain ⟨_, l2, _, _⟩ := h.lo
  obtain ⟨i1, i2, i3, i4, i5⟩ := h.hi
  exact ⟨h.fr.trans hf (fun i hi q => by have q' : i = m1 := q; omega), hc, h.c2.keep hf h.ne.2.1 (fun q => h.ne.2.2 q.symm) (fun k _ q z => by have z' : k = m1 := z; omega), h.lo, ⟨i1, i2, i3, i4, Nat.le_trans i5 hf.size⟩, h.ne⟩
theorem TwoC.two {W w w' : World} {B a1 m1 a2 m2 : Nat} {c1 c2 c2' : Cat} (h : TwoC W w B a1 m1 a2 m2 c1 c2) (hf : Fr (fun k => k = m2) w w') (hc : IsC w' (fun k => B ≤ k) a2 m2 c2') : TwoC W w' B a1 m1 a2 m2 c1 c2' := by
  obtain ⟨_, _, _, l4⟩ := h.lo
  obtain ⟨i1, i2, i3, i4, i5⟩ := h.hi
  exact ⟨h.fr.trans hf (fun i hi q => by have q' : i = m2 := q; omega), h.c1.keep hf h.ne.1 h.ne.2.2 (fun k _ q z => by have z' : k = m2 := z; omega), hc, h.lo, ⟨i1, i2, i3, i4, Nat.le_trans i5 hf.size⟩, h.ne⟩
theorem IsC.rekey {K K' : Nat → Prop} {w : World} {a m : Nat} (h : IsC w K a m []) (hk : ¬ K' m) : IsC w K' a m [] := by
  obtain ⟨ml, h1, h2, h3⟩ := h.map
  have hl := h2.length
  have : ml = [] := List.eq_nil_of_length_eq_zero (by simpa [mapv] using hl)
  subst this
  exact ⟨h.blk, ⟨[], h1, h2, fun e he => by simp at he⟩, h.ne, hk, h.few, h.good⟩
theorem TwoC.made {W w1 w2 : World} (h1 : IsC w1 (fun _ => False) (W.heap.size + 1) W.heap.size []) (f1 : Fr no W w1) (h2 : IsC w2 (fun _ => False) (w1.heap.size + 1) w1.heap.size []) (f2 : Fr no w1 w2) :
    TwoC W w2 (w1.heap.size + 2) (W.heap.size + 1) W.heap.size (w1.heap.size + 1) w1.heap.size [] [] := by
  have l1 := h1.lt
  have l2 := h2.lt
  have s1 := f1.size
  exact ⟨f1.trans f2 (fun _ _ q => q), (h1.later f2).rekey (by omega), h2.rekey (by omega), ⟨by omega, by omega, by omega, by omega⟩, ⟨by omega, by omega, by omega, by omega, by omega⟩, ⟨by omega, by omega, by omega⟩⟩
end Go.Proofs.Ythmjjbgjbcnjmaa

namespace Go.Proofs.Ythmjjbgjbcnjmaa
open Go.ChangeShapes Go.WideShapes Go.ChangeAt Go.RowKit Go.Hop Go.Deep

/-! ### Schemas that came in, opened -/
theorem cells41' : Try.prog.cellsOf 41 = 4 := by kernel_rfl
theorem cells43' : Try.prog.cellsOf 43 = 2 := by kernel_rfl
theorem cells91' : Try.prog.cellsOf 91 = 3 := by kernel_rfl
theorem cells38' : Try.prog.cellsOf 38 = 1 := by kernel_rfl
theorem cells39' : Try.prog.cellsOf 39 = 1 := by kernel_rfl
theorem cells4' : Try.prog.cellsOf 4 = 1 := by kernel_rfl

theorem flat_get {α : Type} (f : α → List Value) (s : Nat) : ∀ (L : List α), (∀ x ∈ L, (f x).length = s) → ∀ (j : Nat) (u : Value), (L.flatMap f)[j]? = some u → ∃ i r x, L[i]? = some x ∧ r < s ∧ j = i * s + r ∧ (f x)[r]? = some u
  | [], _, j, u, h => by simp at h
  | x :: L, hl, j, u, h => by
    have h0 := hl x List.mem_cons_self
    rw [List.flatMap_cons] at h
    by_cases hj : j < s
    · rw [List.getElem?_append_left (by omega)] at h
      exact ⟨0, j, x, rfl, hj, by omega, h⟩
    · rw [List.getElem?_append_right (by omega), h0] at h
      obtain ⟨i, r, y, h1, h2, h3, h4⟩ := flat_get f s L (fun y hy => hl y (List.mem_cons_of_mem _ hy)) (j - s) u h
      exact ⟨i + 1, r, y, by simpa using h1, h2, by rw [Nat.add_mul]; omega, h4⟩
theorem flat_len {α : Type} (f : α → List Value) (s : Nat) : ∀ (L : List α), (∀ x ∈ L, (f x).length = s) → (L.flatMap f).length = L.length * s
  | [], _ => by simp
  | x :: L, hl => by
    rw [List.flatMap_cons, List.length_append, flat_len f s L (fun y hy => hl y (List.mem_cons_of_mem _ hy)), hl x List.mem_cons_self, List.length_cons, Nat.add_mul]; omega
theorem map_range {α : Type} {g : Nat → α} {n i : Nat} {x : α} (h : ((List.range n).map g)[i]? = some x) : i < n ∧ g i = x := by
  rw [List.getElem?_map] at h
  cases hr : (List.range n)[i]? with
  | none => rw [hr] at h; cases h
  | some k =>
    rw [hr] at h
    injection h with h
    obtain ⟨h1, h2⟩ := List.getElem?_eq_some_iff.1 hr
    simp at h1 h2
    exact ⟨h1, by rw [← h, ← h2]⟩
/-- a slice whose elements are read one by one -/
theorem rc_elems {α : Type} {w : World} {s : Nat} {A : Addr} {n c : Nat} (f : α → List Value) (L : List α) (hs : 0 < s) (hn : L.length = n) (hc : n ≤ c) (hl : ∀ x ∈ L, (f x).length = s ∧ ∀ u ∈ f x, u.oneCell' = true)
    (hx : ∀ i x, L[i]? = some x → w.cells? 0 (A.add (i * s)) s = some (f x)) : RcK w (fun _ => True) s (.slice (some A) n c) n (L.flatMap f) := by
  have hlen := flat_len f s L (fun x hx => (hl x hx).1)
  have key : ∀ j u, (L.flatMap f)[j]? = some u → w.cell? (A.add j) = some u := fun j u hj => by
    obtain ⟨i, r, x, h1, h2, h3, h4⟩ := flat_get f s L (fun x hx => (hl x hx).1) j u hj
    obtain ⟨_, _, h5⟩ := World.cells?_some (hx i x h1)
    have h6 := h5 r h2
    rw [add_add, h4] at h6
    rw [h3]; exact h6
  have form : 0 < n → ∃ b off, A = ⟨b, off, none⟩ ∧ b < w.heap.size := fun hpos => by
    have hp : 0 < (L.flatMap f).length := by rw [hlen]; exact Nat.mul_pos (by omega) hs
    have h := key 0 _ (List.getElem?_eq_getElem hp)
    obtain ⟨b, off, rfl⟩ := addr_of h
    rw [add_at] at h
    exact ⟨b, off, rfl, cell_lt h⟩
  refine ⟨⟨some A, c, rfl, hc, by rw [hlen, hn], fun u hu => ?_, fun j u hj => ?_⟩, fun hne k hk => ?_⟩
  · obtain ⟨x, hx, hu⟩ := List.mem_flatMap.1 hu
    exact (hl x hx).2 u hu
  · have h := key j u hj
    have hjl := (List.getElem?_eq_some_iff.1 hj).1
    rw [hlen] at hjl
    obtain ⟨b, off, rfl, _⟩ := form (by
      rcases Nat.eq_zero_or_pos n with q | q
      · rw [hn, q] at hjl; simp at hjl
      · exact q)
    exact ⟨b, off, rfl, by rw [add_at] at h; exact h⟩
  · obtain ⟨b, off, rfl, hb⟩ := form (Nat.pos_of_ne_zero hne)
    simp only [Value.ownBlock] at hk
    injection hk with hk
    subst hk
    exact ⟨hb, trivial⟩

theorem icells_zip : ∀ (L : List (Ix × Value)), icells (L.map Prod.fst) (L.map Prod.snd) = L.flatMap (fun z : Ix × Value => [Value.string z.1.name, z.2, .bool z.1.uniq])
  | [] => rfl
  | z :: L => by
    have ih := icells_zip L
    simp only [List.map_cons, icells, ih, List.flatMap_cons, List.cons_append, List.nil_append]
section
variable {H : Type} {enc : TypeId × Value → H} {w : World}
set_option maxRecDepth 100000 in
theorem open_col {fuel : Nat} {cs : List Value} {x : DataW H × List MemPlace} (h : DataW.trod enc Try.prog w 0 (fun _ => true) true fuel 43 cs = some x) (hb : Rows.uptoBulk x.1 ≤ 1048576) :
    ∃ c : Col, cs = [.string c.1, .int .i64 c.2] ∧ c.1.size ≤ 1048576 ∧ -9223372036854775808 ≤ c.2 ∧ c.2 ≤ 9223372036854775807 := by
  obtain ⟨xs, n, _, rfl, hcl, hxl, hf⟩ := DataW.trod_struct Try.underlying43 h
  rw [cells43'] at hcl
  match cs, hcl, xs, hxl with
  | [c0, c1], _, [x0, x1], _ =>
    have g0 := hf 0 _ rfl
    have g1 := hf 1 _ rfl
    simp [cells3', cells9'] at g0 g1
    obtain ⟨s1, e0, rfl, w0⟩ := DataW.trod_string Try.underlying9 g0
    obtain ⟨k, e1, rfl, w1⟩ := DataW.trod_int Try.underlying3 g1
    simp at e0 e1
    subst e0 e1
    simp only [List.map_cons, List.map_nil, Rows.uptoBulk, Rows.uptoBulkAll, Array.length_toList] at hb
    have b1 : s1.data.size = s1.size := rfl
    exact ⟨(s1, k), rfl, by simp only; omega, bounds_i64 w1⟩
set_option maxRecDepth 100000 in
theorem open_cols {fuel : Nat} {v : Value} {x : DataW H × List MemPlace} (h : DataW.trod enc Try.prog w 0 (fun _ => true) true fuel 38 [v] = some x) (hb : Rows.uptoBulk x.1 ≤ 1048576) :
    ∃ l : List Col, RcK w (fun _ => True) 2 v l.length (ccells l) ∧ l.length ≤ 1048576 ∧ ∀ c ∈ l, c.1.size ≤ 1048576 ∧ -9223372036854775808 ≤ c.2 ∧ c.2 ≤ 9223372036854775807 := by
  rcases open_slice Try.underlying38 h with ⟨hc, rfl⟩ | ⟨a, len, cap, m, q, D, Pl, hc, _, hle, hmx, hm, hx, hel⟩
  · simp at hc
    subst hc
    exact ⟨[], ⟨rc_empty w 2 none 0, fun q => absurd rfl q⟩, by simp, by simp⟩
  · simp at hc
    subst hc
    simp at hm
    subst hm
    subst hx
    have hbD : ∀ i, i < len → Rows.uptoBulk (D i) ≤ 1048576 := fun i hi => by
      have := part_le (show D i ∈ (List.range len).map D from List.mem_map.2 ⟨i, List.mem_range.2 hi, rfl⟩)
      simp only [Rows.uptoBulk] at hb
      omega
    have hlen : len ≤ 1048576 := by
      have := length_le ((List.range len).map D)
      simp only [List.length_map, List.length_range, Rows.uptoBulk] at this hb
      omega
    obtain ⟨g, hg⟩ := choose_lt (α := Col) (p := fun i c => w.cells? 0 (a.add (i * 2)) 2 = some [.string c.1, .int .i64 c.2] ∧ c.1.size ≤ 1048576 ∧ -9223372036854775808 ≤ c.2 ∧ c.2 ≤ 9223372036854775807) (n := len) (fun i hi => by
      obtain ⟨cs', h1, h2⟩ := hel i (by omega)
      rw [cells43'] at h1
      obtain ⟨c, rfl, hcb⟩ := open_col h2 (hbD i hi)
      exact ⟨c, h1, hcb⟩)
    refine ⟨(List.range len).map g, ?_, by simpa using hlen, fun c hc => ?_⟩
    · have := rc_elems (w := w) (s := 2) (A := a) (n := len) (c := m) (fun c : Col => [Value.string c.1, .int .i64 c.2]) ((List.range len).map g) (by decide) (by simp) hle (fun c _ => ⟨rfl, by simp [Value.oneCell']⟩) (fun i c hi => by
        obtain ⟨hil, rfl⟩ := map_range hi
        exact (hg i hil).1)
      simpa [ccells] using this
    · obtain ⟨i, hi, rfl⟩ := List.mem_map.1 hc
      exact (hg i (List.mem_range.1 hi)).2

set_option maxRecDepth 100000 in
theorem open_ix {fuel : Nat} {cs : List Value} {x : DataW H × List MemPlace} (h : DataW.trod enc Try.prog w 0 (fun _ => true) true fuel 91 cs = some x) (hb : Rows.uptoBulk x.1 ≤ 1048576) :
    ∃ (z : Ix × Value), cs = [.string z.1.name, z.2, .bool z.1.uniq] ∧ RcK w (fun _ => True) 1 z.2 z.1.cols.length (z.1.cols.map encI) ∧ z.1.name.size ≤ 1048576 ∧ z.1.cols.length ≤ 1048576 ∧ ∀ n ∈ z.1.cols, -9223372036854775808 ≤ n ∧ n ≤ 9223372036854775807 := by
  obtain ⟨xs, n, _, rfl, hcl, hxl, hf⟩ := DataW.trod_struct Try.underlying91 h
  rw [cells91'] at hcl
  match cs, hcl, xs, hxl with
  | [c0, c1, c2], _, [x0, x1, x2], _ =>
    have g0 := hf 0 _ rfl
    have g1 := hf 1 _ rfl
    have g2 := hf 2 _ rfl
    simp [cells29', cells9', cells4'] at g0 g1 g2
    obtain ⟨s1, e0, rfl, w0⟩ := DataW.trod_string Try.underlying9 g0
    obtain ⟨ds, r1, r2, r3, r4⟩ := open_draws g1
    obtain ⟨u, e2, rfl⟩ := DataW.trod_bool Try.underlying4 g2
    simp at e0 e2
    subst e0 e2
    simp only [List.map_cons, List.map_nil, Rows.uptoBulk, Rows.uptoBulkAll, Array.length_toList] at hb
    have b1 : s1.data.size = s1.size := rfl
    refine ⟨(⟨s1, ds, u⟩, c1), rfl, ⟨Rc.of_rd r1, fun hn k hk => ⟨r4 (fun q => hn (by simp [q])) k hk, trivial⟩⟩, by simp only; omega, by simp only; omega, r3⟩

set_option maxRecDepth 100000 in
theorem open_idxs {fuel : Nat} {v : Value} {x : DataW H × List MemPlace} (h : DataW.trod enc Try.prog w 0 (fun _ => true) true fuel 39 [v] = some x) (hb : Rows.uptoBulk x.1 ≤ 1048576) :
    ∃ (l : List Ix) (svs : List Value), IdxAt w (fun _ => True) v l svs ∧ l.length ≤ 1048576 ∧ ∀ z ∈ l, z.name.size ≤ 1048576 ∧ z.cols.length ≤ 1048576 ∧ ∀ n ∈ z.cols, -9223372036854775808 ≤ n ∧ n ≤ 9223372036854775807 := by
  rcases open_slice Try.underlying39 h with ⟨hc, rfl⟩ | ⟨a, len, cap, m, q, D, Pl, hc, _, hle, hmx, hm, hx, hel⟩
  · simp at hc
    subst hc
    exact ⟨[], [], ⟨rfl, ⟨rc_empty w 3 none 0, fun q => absurd rfl q⟩, fun j z u hj => by simp at hj⟩, by simp, by simp⟩
  · simp at hc
    subst hc
    simp at hm
    subst hm
    subst hx
    have hbD : ∀ i, i < len → Rows.uptoBulk (D i) ≤ 1048576 := fun i hi => by
      have := part_le (show D i ∈ (List.range len).map D from List.mem_map.2 ⟨i, List.mem_range.2 hi, rfl⟩)
      simp only [Rows.uptoBulk] at hb
      omega
    have hlen : len ≤ 1048576 := by
      have := length_le ((List.range len).map D)
      simp only [List.length_map, List.length_range, Rows.uptoBulk] at this hb
      omega
    have : Inhabited Ix := ⟨⟨⟨#[]⟩, [], false⟩⟩
    have : Inhabited Value := ⟨.bool false⟩
    obtain ⟨g, hg⟩ := choose_lt (α := Ix × Value) (p := fun i z => w.cells? 0 (a.add (i * 3)) 3 = some [.string z.1.name, z.2, .bool z.1.uniq] ∧ RcK w (fun _ => True) 1 z.2 z.1.cols.length (z.1.cols.map encI) ∧ z.1.name.size ≤ 1048576 ∧ z.1.cols.length ≤ 1048576 ∧ ∀ n ∈ z.1.cols, -9223372036854775808 ≤ n ∧ n ≤ 9223372036854775807) (n := len) (fun i hi => by
      obtain ⟨cs', h1, h2⟩ := hel i (by omega)
      rw [cells91'] at h1
      obtain ⟨z, rfl, hcb⟩ := open_ix h2 (hbD i hi)
      exact ⟨z, h1, hcb⟩)
    refine ⟨((List.range len).map g).map Prod.fst, ((List.range len).map g).map Prod.snd, ⟨by simp, ?_, fun j z u hj hu => ?_⟩, by simpa using hlen, fun z hz => ?_⟩
    · have := rc_elems (w := w) (s := 3) (A := a) (n := len) (c := m) (fun z : Ix × Value => [Value.string z.1.name, z.2, .bool z.1.uniq]) ((List.range len).map g) (by decide) (by simp) hle (fun z hz => ⟨rfl, fun u hu => by
        obtain ⟨i, hi, rfl⟩ := List.mem_map.1 hz
        obtain ⟨A', c', e, _⟩ := (hg i (List.mem_range.1 hi)).2.1.rc.form
        simp only [List.mem_cons, List.not_mem_nil, or_false] at hu
        rcases hu with rfl | rfl | rfl
        · rfl
        · rw [e]; rfl
        · rfl⟩) (fun i c hi => by
        obtain ⟨hil, rfl⟩ := map_range hi
        exact (hg i hil).1)
      have e : icells (((List.range len).map g).map Prod.fst) (((List.range len).map g).map Prod.snd) = ((List.range len).map g).flatMap (fun z : Ix × Value => [Value.string z.1.name, z.2, .bool z.1.uniq]) := icells_zip _
      rw [e]
      simpa using this
    · rw [List.getElem?_map] at hj hu
      cases hr : ((List.range len).map g)[j]? with
      | none => rw [hr] at hj; cases hj
      | some p =>
        rw [hr] at hj hu
        injection hj with hj
        injection hu with hu
        subst hj hu
        obtain ⟨hil, rfl⟩ := map_range hr
        exact (hg j hil).2.1
    · obtain ⟨p, hp, rfl⟩ := List.mem_map.1 hz
      obtain ⟨i, hi, rfl⟩ := List.mem_map.1 hp
      exact (hg i (List.mem_range.1 hi)).2.2

set_option maxRecDepth 100000 in
theorem open_tab {fuel : Nat} {cs : List Value} {x : DataW H × List MemPlace} (h : DataW.trod enc Try.prog w 0 (fun _ => true) true fuel 41 cs = some x) (hb : Rows.uptoBulk x.1 ≤ 1048576) :
    ∃ t : Tab, ∃ A1 c1 A2 c2, cs = [.string t.name, .slice A1 t.cols.length c1, .int .i64 t.key, .slice A2 t.idx.length c2] ∧ TabAt w (fun k => k < w.heap.size) (.agg #[.string t.name, .slice A1 t.cols.length c1, .int .i64 t.key, .slice A2 t.idx.length c2]) t ∧ TabOk t := by
  obtain ⟨xs, n, _, rfl, hcl, hxl, hf⟩ := DataW.trod_struct Try.underlying41 h
  rw [cells41'] at hcl
  match cs, hcl, xs, hxl with
  | [c0, c1, c2, c3], _, [x0, x1, x2, x3], _ =>
    have g0 := hf 0 _ rfl
    have g1 := hf 1 _ rfl
    have g2 := hf 2 _ rfl
    have g3 := hf 3 _ rfl
    simp [cells38', cells39', cells9', cells3'] at g0 g1 g2 g3
    obtain ⟨s1, e0, rfl, w0⟩ := DataW.trod_string Try.underlying9 g0
    obtain ⟨k, e2, rfl, w2⟩ := DataW.trod_int Try.underlying3 g2
    simp at e0 e2
    subst e0 e2
    simp only [List.map_cons, List.map_nil, Rows.uptoBulk, Rows.uptoBulkAll, Array.length_toList] at hb
    have b1 : s1.data.size = s1.size := rfl
    have k2 := bounds_i64 w2
    obtain ⟨cl, r1, r2, r3⟩ := open_cols g1 (by omega)
    obtain ⟨il, svs, q1, q2, q3⟩ := open_idxs g3 (by omega)
    obtain ⟨A1, c1', rfl, _⟩ := r1.rc.form
    obtain ⟨A2, c2', rfl, _⟩ := q1.row.rc.form
    have hT : TabAt w (fun _ => True) (.agg #[.string s1, .slice A1 cl.length c1', .int .i64 k, .slice A2 il.length c2']) ⟨s1, cl, k, il⟩ := ⟨_, _, svs, rfl, r1, q1⟩
    refine ⟨⟨s1, cl, k, il⟩, A1, c1', A2, c2', rfl, hT.mono (fun k hk _ => hk), ⟨⟨by simp only; omega, by simp only; omega, k2, by simp only; omega, fun p hp => ⟨by have := (r3 p hp).1; omega, (r3 p hp).2⟩, fun z hz => ⟨by have := (q3 z hz).1; omega, by have := (q3 z hz).2.1; omega, (q3 z hz).2.2⟩⟩, ⟨by simp only; omega, by simp only; omega⟩, fun z hz => by have := (q3 z hz).2.1; omega⟩⟩

set_option maxRecDepth 100000 in
/-- the schemas that came in, opened -/
theorem open_tabs {v : Value} {d : DataW H} {ps : List MemPlace} (hv : ∃ A n c, v = .slice A n c) (h : DataW.Trod enc Try.prog w 0 (fun _ => true) true 34 v d ps) (hb : Rows.uptoBulk d ≤ 1048576) :
    ∃ A n c ts, v = .slice A n c ∧ n ≤ c ∧ n ≤ 1048576 ∧ TabsIn w A n ts := by
  obtain ⟨A, n, c, rfl⟩ := hv
  obtain ⟨fuel, hf⟩ := h
  rcases open_slice Try.underlying34 hf with ⟨hc, hx⟩ | ⟨a, len, cap, m, q, D, Pl, hc, _, hle, hmx, hm, hx, hel⟩
  · simp [Value.cells] at hc
    obtain ⟨rfl, rfl, rfl⟩ := hc
    exact ⟨none, 0, 0, [], rfl, Nat.le_refl _, by omega, rfl, by simp, fun i t hi => by simp at hi⟩
  · simp [Value.cells] at hc
    obtain ⟨rfl, rfl, rfl⟩ := hc
    simp at hm
    subst hm
    injection hx with hx1 hx2
    subst hx1
    have hbD : ∀ i, i < n → Rows.uptoBulk (D i) ≤ 1048576 := fun i hi => by
      have := part_le (show D i ∈ (List.range n).map D from List.mem_map.2 ⟨i, List.mem_range.2 hi, rfl⟩)
      simp only [Rows.uptoBulk] at hb
      omega
    have hlen : n ≤ 1048576 := by
      have := length_le ((List.range n).map D)
      simp only [List.length_map, List.length_range, Rows.uptoBulk] at this hb
      omega
    have : Inhabited Tab := ⟨⟨⟨#[]⟩, [], 0, []⟩⟩
    obtain ⟨g, hg⟩ := choose_lt (α := Tab) (p := fun i t => ∃ A1 c1 A2 c2, w.cells? 0 (a.add (i * 4)) 4 = some [.string t.name, .slice A1 t.cols.length c1, .int .i64 t.key, .slice A2 t.idx.length c2] ∧ TabAt w (fun k => k < w.heap.size) (.agg #[.string t.name, .slice A1 t.cols.length c1, .int .i64 t.key, .slice A2 t.idx.length c2]) t ∧ TabOk t) (n := n) (fun i hi => by
      obtain ⟨cs', h1, h2⟩ := hel i (by omega)
      rw [cells41'] at h1
      obtain ⟨t, A1, c1, A2, c2, rfl, h3⟩ := open_tab h2 (hbD i hi)
      exact ⟨t, A1, c1, A2, c2, h1, h3⟩)
    refine ⟨some a, n, _, (List.range n).map g, rfl, hle, hlen, by simp, fun t ht => ?_, fun i t hi => ?_⟩
    · obtain ⟨i, hi, rfl⟩ := List.mem_map.1 ht
      obtain ⟨_, _, _, _, _, _, h3⟩ := hg i (List.mem_range.1 hi)
      exact h3
    · obtain ⟨hil, rfl⟩ := map_range hi
      obtain ⟨A1, c1, A2, c2, h1, h2, _⟩ := hg i hil
      obtain ⟨b, off, rfl⟩ : ∃ b off, a = ⟨b, off, none⟩ := by
        obtain ⟨A1, c1, A2, c2, h1, _⟩ := hg 0 (by omega)
        obtain ⟨_, _, hcell⟩ := World.cells?_some h1
        have z := hcell 0 (by omega)
        rw [add_add] at z
        simp only [Nat.zero_mul, Nat.zero_add] at z
        exact addr_of z
      obtain ⟨_, _, hcell⟩ := World.cells?_some h1
      have k0 := hcell 0 (by omega)
      have k1 := hcell 1 (by omega)
      have k2 := hcell 2 (by omega)
      have k3 := hcell 3 (by omega)
      rw [add_add, add_at] at k0 k1 k2 k3
      exact ⟨b, off, A1, c1, A2, c2, rfl, cell_lt k0, h2, k0, by rw [Nat.add_assoc]; exact k1, by rw [Nat.add_assoc]; exact k2, by rw [Nat.add_assoc]; exact k3⟩
end
end Go.Proofs.Ythmjjbgjbcnjmaa

namespace Go.Proofs.Ythmjjbgjbcnjmaa
open Go.RowKit Go.Hop
attribute [local go_sem ↓] Go.wp_at_zero Go.wp_at_succ

/-! ### A reader of bytes -/
structure RdAt (w : World) (p : Nat) (s : RS) : Prop where
  blk : w.heap[p]? = some (.cells #[.string s.b, .bool s.bad] 139 (0, 0))
  sz : s.b.size ≤ 4294967296
theorem RdAt.later {w w' : World} {p : Nat} {s : RS} (h : RdAt w p s) (hf : Fr no w w') : RdAt w' p s := ⟨hf.keep h.blk id, h.sz⟩
def RdPost (w : World) (p : Nat) (r : Value) (s : RS) (e : Ending) (w' : World) : Prop := e = .returned r ∧ RdAt w' p s ∧ Fr (fun k => k = p) w w'
theorem rtake_sz (s : RS) (n : Int) (h : s.b.size ≤ 4294967296) : (rtake s n).2.b.size ≤ 4294967296 ∧ (rtake s n).1.size ≤ 4294967296 := by
  unfold rtake
  split
  · exact ⟨h, Nat.zero_le _⟩
  · simp only [ByteArray.size_extract]; omega

set_option maxHeartbeats 1000000 in
set_option maxRecDepth 100000 in
theorem take_any (p : Nat) (n : Int) (s : RS) (w : World) (h : RdAt w p s) : Calls Try.prog 141 #[.pointer (some ⟨p, 0, none⟩), .int .i64 n] w (RdPost w p (.string (rtake s n).1) (rtake s n).2) := by
  obtain ⟨b, bad⟩ := s
  have x0 : w.cell? ⟨p, 0, none⟩ = some (.string b) := cells_at h.blk 0 _ rfl
  have x1 : w.cell? ⟨p, 1, none⟩ = some (.bool bad) := cells_at h.blk 1 _ rfl
  have f0 := free_at h.blk 0
  have f1 := free_at h.blk 1
  have hps := heap_lt h.blk
  have H := Lib.hid h
  have hsz := h.sz
  simp only at hsz
  clear h
  by_cases hb : bad = true ∨ n < 0 ∨ (b.size : Int) < n
  · have HR := Lib.hid (show rtake ⟨b, bad⟩ n = (⟨#[]⟩, ⟨b, true⟩) by rw [rtake, if_pos hb])
    have hend : RdAt (w.setCell ⟨p, 1, none⟩ (.bool true)) p ⟨b, true⟩ := ⟨by have := heap_setCell_at H.out.blk 1 (.bool true); simpa using this, hsz⟩
    have hfr : Fr (fun k => k = p) w (w.setCell ⟨p, 1, none⟩ (.bool true)) := (Fr.refl _ w).setCell _ _ (fun _ => rfl)
    have HE := Lib.hid (And.intro hend hfr)
    clear hend hfr
    cases bad with
    | true =>
      clear hb
      go_enter Try.func141, Try.ntmps141
      go_wp2_with fail
      go_ret
      rw [HR.out]
      exact ⟨rfl, HE.out.1, HE.out.2⟩
    | false =>
      by_cases hn : n < 0
      · clear hb
        go_enter Try.func141, Try.ntmps141
        go_wp2_with fail
        go_ret
        rw [HR.out]
        exact ⟨rfl, HE.out.1, HE.out.2⟩
      · have hgt : (b.size : Int) < n := by simpa [hn] using hb
        have t1 : decide (n < 0) = false := by simpa using hn
        have t2 : decide ((b.size : Int) < n) = true := by simpa using hgt
        clear hb
        go_enter Try.func141, Try.ntmps141
        go_wp2_with fail
        go_ret
        rw [HR.out]
        exact ⟨rfl, HE.out.1, HE.out.2⟩
  · have HR := Lib.hid (show rtake ⟨b, bad⟩ n = (b.extract 0 n.toNat, ⟨b.extract n.toNat b.size, false⟩) by rw [rtake, if_neg hb])
    have hbad : bad = false := by cases bad; rfl; exact absurd (.inl rfl) hb
    have h0 : ¬ n < 0 := fun q => hb (.inr (.inl q))
    have h1 : ¬ (b.size : Int) < n := fun q => hb (.inr (.inr q))
    subst hbad
    obtain ⟨m, rfl⟩ : ∃ m : Nat, n = m := ⟨n.toNat, by omega⟩
    have hm : m ≤ b.size := by omega
    have t1 : decide ((m : Int) < 0) = false := by simp
    have t2 : decide ((b.size : Int) < (m : Int)) = false := by simp; omega
    have t3 : decide (b.size < m) = false := by simp; omega
    have hend : RdAt (w.setCell ⟨p, 0, none⟩ (.string (b.extract m b.size))) p ⟨b.extract m b.size, false⟩ := ⟨by have := heap_setCell_at H.out.blk 0 (.string (b.extract m b.size)); simpa using this, by simp only [ByteArray.size_extract]; omega⟩
    have hfr : Fr (fun k => k = p) w (w.setCell ⟨p, 0, none⟩ (.string (b.extract m b.size))) := (Fr.refl _ w).setCell _ _ (fun _ => rfl)
    have HE := Lib.hid (And.intro hend hfr)
    clear hend hfr hb h0 h1
    go_enter Try.func141, Try.ntmps141
    go_wp2_with fail
    go_ret
    rw [HR.out]
    exact ⟨rfl, HE.out.1, HE.out.2⟩

/-! ### A number -/
theorem or_step (a c k : Nat) (ha : a < 256 ^ k) (hc : c < 256) (hk : k < 8) : bits .or .u64 (a : Int) ((c * 256 ^ k : Nat) : Int) = ((a + c * 256 ^ k : Nat) : Int) := by
  have h1 : (256 : Nat) ^ k * 256 ≤ 256 ^ 8 := by rw [← Nat.pow_succ]; exact Nat.pow_le_pow_right (by omega) (by omega)
  have h2 : c * 256 ^ k + 256 ^ k ≤ 256 ^ k * 256 := by
    have : (c + 1) * 256 ^ k ≤ 256 * 256 ^ k := Nat.mul_le_mul_right _ (by omega)
    rw [Nat.add_mul, Nat.one_mul] at this
    rw [Nat.mul_comm (256 ^ k) 256]; exact this
  have h3 : (256 : Nat) ^ 8 = 18446744073709551616 := by decide
  have h4 : a ||| c * 256 ^ k = a + c * 256 ^ k := by
    have e : (256 : Nat) ^ k = 2 ^ (8 * k) := by rw [Nat.pow_mul]
    rw [e] at ha ⊢
    have := Nat.shiftLeft_add_eq_or_of_lt ha c
    rw [Nat.shiftLeft_eq] at this
    rw [Nat.or_comm, ← this, Nat.add_comm]
  have := u64_or_nat a (c * 256 ^ k) (by omega) (by omega)
  rw [h4] at this
  exact this
theorem shl_step (c k : Nat) (hc : c < 256) (hk : k < 8) : IntKind.u64.wrap ((c : Int) * 2 ^ (8 * k)) = ((c * 256 ^ k : Nat) : Int) := by
  have h1 : (256 : Nat) ^ k * 256 ≤ 256 ^ 8 := by rw [← Nat.pow_succ]; exact Nat.pow_le_pow_right (by omega) (by omega)
  have h2 : c * 256 ^ k ≤ 255 * 256 ^ k := Nat.mul_le_mul_right _ (by omega)
  have h3 : (256 : Nat) ^ 8 = 18446744073709551616 := by decide
  have e : (256 : Nat) ^ k = 2 ^ (8 * k) := by rw [Nat.pow_mul]
  have e3 : (c : Int) * 2 ^ (8 * k) = ((c * 256 ^ k : Nat) : Int) := by rw [e]; push_cast; rfl
  rw [e3]
  have : IntKind.u64.wrap ((c * 256 ^ k : Nat) : Int) = ((c * 256 ^ k : Nat) : Int) % 18446744073709551616 := by simp [IntKind.wrap, IntKind.bits, IntKind.signed]
  rw [this]; omega
theorem conv_i64 (n : Nat) (h : n < 18446744073709551616) : wrap64 (n : Int) = toI64 n := by
  unfold wrap64 toI64
  split <;> omega
theorem le64_snoc (l : List UInt8) (c : UInt8) : le64 (l ++ [c]) = le64 l + c.toNat * 256 ^ l.length := by
  induction l with
  | nil => simp [le64]
  | cons a l ih =>
    show a.toNat + 256 * le64 (l ++ [c]) = a.toNat + 256 * le64 l + _
    rw [ih, List.length_cons, Nat.pow_succ]
    rw [Nat.mul_add, Nat.add_assoc]
    congr 1
    congr 1
    rw [Nat.mul_comm (256 ^ l.length) 256, ← Nat.mul_assoc, ← Nat.mul_assoc, Nat.mul_comm 256 c.toNat]
theorem rtake8_len (s : RS) : (bl (rtake s 8).1).length ≤ 8 := by
  unfold rtake
  split
  · simp [bl]
  · rw [bl_len]; simp only [ByteArray.size_extract]; omega

set_option maxHeartbeats 1000000 in
set_option maxRecDepth 100000 in
theorem num_any (p : Nat) (s : RS) (w : World) (h : RdAt w p s) : Calls Try.prog 142 #[.pointer (some ⟨p, 0, none⟩)] w (RdPost w p (.int .i64 (rnum s).1) (rnum s).2) := by
  have H := Lib.hid h
  have HR := Lib.hid (show rnum s = (toI64 (le64 (bl (rtake s 8).1)), (rtake s 8).2) from rfl)
  have h8 := rtake8_len s
  clear h
  generalize hx : rtake s 8 = x at *
  obtain ⟨x1, x2⟩ := x
  simp only at HR h8
  have h8s : x1.size ≤ 8 := by rw [← bl_len]; exact h8
  have HX := Lib.hid hx
  clear hx
  have hcv := fun w => run_bytes_of_string (P := Try.prog) w 9 98 5 x1 Try.underlying9 Try.underlying98 Try.underlying5
  go_enter Try.func142, Try.ntmps142
  go_wp2_with (first | (go_at_call 141; go_loud (refine (take_any p 8 s _ H.out).mono ?_; rintro e w1 ⟨rfl, hW1, hF1⟩; rw [HX.out] at hW1 ⊢; have HW1 := Lib.hid hW1; have HF1 := Lib.hid hF1; clear hW1 hF1)) | fail)
  have hrd : Rd encB ((w1.alloc (.cells (bytesRow x1 (grownCap w1 x1.size 0 5)) 5 ((bytesRow x1 (grownCap w1 x1.size 0 5)).size, (bytesRow x1 (grownCap w1 x1.size 0 5)).size + 1))).drew) (.slice (some ⟨w1.heap.size, 0, none⟩) x1.size (grownCap w1 x1.size 0 5)) (bl x1) := rd_bytes w1 x1 (grownCap w1 x1.size 0 5) (grownCap_ge _ _ _ _) 5 ((bytesRow x1 (grownCap w1 x1.size 0 5)).size, (bytesRow x1 (grownCap w1 x1.size 0 5)).size + 1)
  have hcap := grownCap_ge w1 x1.size 0 5
  have hwf := Fr.drew (Fr.alloc (Fr.refl no w1) (.cells (bytesRow x1 (grownCap w1 x1.size 0 5)) 5 ((bytesRow x1 (grownCap w1 x1.size 0 5)).size, (bytesRow x1 (grownCap w1 x1.size 0 5)).size + 1)))
  have HRD := Lib.hid hrd
  have HWF := Lib.hid hwf
  clear hrd hwf hcv
  generalize ((w1.alloc (.cells (bytesRow x1 (grownCap w1 x1.size 0 5)) 5 ((bytesRow x1 (grownCap w1 x1.size 0 5)).size, (bytesRow x1 (grownCap w1 x1.size 0 5)).size + 1))).drew) = w2 at *
  generalize grownCap w1 x1.size 0 5 = cap at *
  go_loop [3, 10] (fun n i => ∃ k : Nat, k ≤ x1.size ∧ i = .int .i64 k ∧ n = .int .u64 ((le64 ((bl x1).take k) : Nat) : Int)) (fun _ i => x1.size - (intOf i).toNat)
  case atStart => exact ⟨0, Nat.zero_le _, rfl, by simp [le64]⟩
  case round =>
    obtain ⟨k, hk, rfl, rfl⟩ := hrel
    by_cases hlt : k < x1.size
    · obtain ⟨c, hc⟩ : ∃ c, (bl x1)[k]? = some c := ⟨_, List.getElem?_eq_getElem (by rw [bl_len]; exact hlt)⟩
      obtain ⟨b, off, hbo, e0⟩ := HRD.out.at_ k c hc
      injection hbo with hbo
      injection hbo with hb1 hb2
      subst hb1 hb2
      rw [Nat.zero_add] at e0
      replace e0 : w2.cell? ⟨w1.heap.size, k, none⟩ = some (.int .u8 (c.toNat : Int)) := e0
      have hc2 : c.toNat < 256 := c.toNat_lt
      have hlk : ((bl x1).take k).length = k := by rw [List.length_take, bl_len]; omega
      have hle := le64_lt ((bl x1).take k)
      rw [hlk] at hle
      have hk8 : k < 8 := by omega
      have HS := Lib.hid (show le64 ((bl x1).take (k + 1)) = le64 ((bl x1).take k) + c.toNat * 256 ^ k by rw [List.take_add_one, hc]; show le64 ((bl x1).take k ++ [c]) = _; rw [le64_snoc, hlk])
      have Hw1 := Lib.hid (show IntKind.u64.wrap (c.toNat : Int) = c.toNat by rw [show IntKind.u64.wrap (c.toNat : Int) = (c.toNat : Int) % 18446744073709551616 by simp [IntKind.wrap, IntKind.bits, IntKind.signed]]; omega)
      have Hw2 := Lib.hid (shl_step c.toNat k hc2 hk8)
      have Hor := Lib.hid (or_step (le64 ((bl x1).take k)) c.toNat k hle hc2 hk8)
      have hc3 : (c.toNat : Int) < 256 := by omega
      have t1 : decide ((k : Int) < (x1.size : Int)) = true := by simp; omega
      have t2 : decide (k < x1.size) = true := by simp; omega
      clear hc hlk hle
      generalize hn0 : le64 ((bl x1).take k) = n0 at *
      clear hn0
      generalize hm0 : c.toNat * 256 ^ k = m0 at *
      clear hm0
      generalize c.toNat = cn at *
      go_wp2_with fail
      go_round
      case rel => exact ⟨k + 1, by omega, by go_num, by rw [HS.out, Hw2.out, Hor.out]⟩
      case measure => simp [intOf]; omega
    · have t1 : decide ((k : Int) < (x1.size : Int)) = false := by simp; omega
      have t2 : decide (k < x1.size) = false := by simp; omega
      have hkk : (bl x1).take k = bl x1 := List.take_of_length_le (by rw [bl_len]; omega)
      have hn := le64_lt (bl x1)
      have hn2 : le64 (bl x1) < 18446744073709551616 := Nat.lt_of_lt_of_le hn (by have := Nat.pow_le_pow_right (show 0 < 256 by omega) h8; simpa using this)
      rw [hkk]
      have HC := Lib.hid (conv_i64 (le64 (bl x1)) hn2)
      clear hkk hn hn2
      generalize le64 (bl x1) = n0 at *
      go_wp2_with fail
      go_ret
      rw [HR.out]
      exact ⟨by rw [← HC.out]; rfl, HW1.out.later HWF.out, HF1.out.trans HWF.out (fun _ _ z => z.elim)⟩

theorem fr_set2 (w : World) (b : Nat) (u0 u1 : Value) : Fr (fun k => k = b) w ((w.setCell ⟨b, 0, none⟩ u0).setCell ⟨b, 1, none⟩ u1) := by
  have h0 := (Fr.refl (fun k => k = b) w).setCell ⟨b, 0, none⟩ u0 (fun _ => rfl)
  exact h0.setCell ⟨b, 1, none⟩ u1 (fun _ => rfl)
theorem fr_set3 (w : World) (b : Nat) (u0 u1 u2 : Value) : Fr (fun k => k = b) w (((w.setCell ⟨b, 0, none⟩ u0).setCell ⟨b, 1, none⟩ u1).setCell ⟨b, 2, none⟩ u2) := by
  have h0 := (Fr.refl (fun k => k = b) w).setCell ⟨b, 0, none⟩ u0 (fun _ => rfl)
  have h1 := h0.setCell ⟨b, 1, none⟩ u1 (fun _ => rfl)
  exact h1.setCell ⟨b, 2, none⟩ u2 (fun _ => rfl)
/-! ### Texts, places, columns, flags -/
set_option maxHeartbeats 1000000 in
theorem rtxt_any (p : Nat) (s : RS) (w : World) (h : RdAt w p s) : Calls Try.prog 116 #[.pointer (some ⟨p, 0, none⟩)] w (RdPost w p (.string (rtext s).1) (rtext s).2) := by
  go_enter Try.func116, Try.ntmps116
  go_wp2_with (first | (go_at_call 142; go_loud (refine (num_any p s _ h).mono ?_; rintro e w1 ⟨rfl, hW1, hF1⟩; have HW1 := Lib.hid hW1; have HF1 := Lib.hid hF1; clear hW1 hF1)) | (go_at_call 141; go_loud (refine (take_any p _ _ _ HW1.out).mono ?_; rintro e w2 ⟨rfl, hW2, hF2⟩)) | fail)
  go_ret
  exact ⟨rfl, hW2, HF1.out.trans hF2 (fun _ _ z => z)⟩
set_option maxHeartbeats 1000000 in
theorem rplace_any (p : Nat) (s : RS) (w : World) (h : RdAt w p s) : Calls Try.prog 118 #[.pointer (some ⟨p, 0, none⟩)] w (RdPost w p (.int .i64 (rnum s).1) (rnum s).2) := by
  go_enter Try.func118, Try.ntmps118
  go_wp2_with (first | (go_at_call 142; go_loud (refine (num_any p s _ h).mono ?_; rintro e w1 ⟨rfl, hW1, hF1⟩)) | fail)
  go_ret
  exact ⟨rfl, hW1, hF1⟩
set_option maxHeartbeats 1000000 in
set_option maxRecDepth 100000 in
theorem rflag_any (p : Nat) (s : RS) (w : World) (h : RdAt w p s) : Calls Try.prog 140 #[.pointer (some ⟨p, 0, none⟩)] w (RdPost w p (.bool (rflag s).1) (rflag s).2) := by
  have H := Lib.hid h
  have hsz := rtake_sz s 1 h.sz
  have hlen : (rtake s 1).2.bad = true ∨ ∃ c, (rtake s 1).1 = ⟨#[c]⟩ := by
    cases hb : (rtake s 1).2.bad with
    | true => exact .inl rfl
    | false =>
      obtain ⟨_, _, _, _, h5⟩ := rtake_get hb
      right
      match hx : bl (rtake s 1).1, h5 with
      | [c], _ => exact ⟨c, bl_inj (by rw [hx])⟩
  have HR := Lib.hid (show rflag s = if (rtake s 1).2.bad = true ∨ 1 < ((bl (rtake s 1).1).headD 0).toNat then (false, ⟨(rtake s 1).2.b, true⟩) else (decide ((bl (rtake s 1).1).headD 0 = 1), (rtake s 1).2) from rfl)
  clear h
  generalize hx : rtake s 1 = x at *
  have HX := Lib.hid hx
  clear hx
  obtain ⟨x1, b2, bad⟩ := x
  simp only at HR hlen hsz
  have hsz2 := hsz.1
  have fin : ∀ (w1 : World) (u : Bool), RdAt w1 p ⟨b2, bad⟩ → RdAt (w1.setCell ⟨p, 1, none⟩ (.bool u)) p ⟨b2, u⟩ := fun w1 u hr => ⟨by have := heap_setCell_at hr.blk 1 (.bool u); simpa using this, hr.sz⟩
  have FIN := Lib.hid fin
  clear fin
  cases bad with
  | true =>
    have HR2 := Lib.hid (show rflag s = (false, ⟨b2, true⟩) by rw [HR.out, if_pos (.inl rfl)])
    clear hlen
    go_enter Try.func140, Try.ntmps140
    go_wp2_with (first | (go_at_call 141; go_loud (refine (take_any p 1 s _ H.out).mono ?_; rintro e w1 ⟨rfl, hW1, hF1⟩; rw [HX.out] at hW1 ⊢; have x1' : w1.cell? ⟨p, 1, none⟩ = some (.bool true) := cells_at hW1.blk 1 _ rfl; have f1 := free_at hW1.blk 1; have HW1 := Lib.hid hW1; have HF1 := Lib.hid hF1; clear hW1 hF1)) | fail)
    go_ret
    rw [HR2.out]
    exact ⟨rfl, FIN.out _ _ HW1.out, HF1.out.setCell _ _ (fun _ => rfl)⟩
  | false =>
    rcases hlen with q | ⟨c, rfl⟩
    · cases q
    have hc : c.toNat < 256 := c.toNat_lt
    have hi : (⟨#[c]⟩ : ByteArray)[0]'(by show 0 < 1; omega) = c := rfl
    have he : bl (⟨#[c]⟩ : ByteArray) = [c] := rfl
    have hb1 : (c = 1) ↔ c.toNat = 1 := ⟨fun q => by subst q; rfl, fun q => UInt8.toNat_inj.1 q⟩
    rw [he] at HR
    by_cases h1 : 1 < c.toNat
    · have HR2 := Lib.hid (show rflag s = (false, ⟨b2, true⟩) by rw [HR.out, if_pos (.inr h1)])
      have t1 : decide ((1 : Int) < (c.toNat : Int)) = true := by simp; omega
      have t2 : decide (1 < c.toNat) = true := by simpa using h1
      clear hb1 he HR
      go_enter Try.func140, Try.ntmps140
      go_wp2_with (first | (go_at_call 141; go_loud (refine (take_any p 1 s _ H.out).mono ?_; rintro e w1 ⟨rfl, hW1, hF1⟩; rw [HX.out] at hW1 ⊢; have x1' : w1.cell? ⟨p, 1, none⟩ = some (.bool false) := cells_at hW1.blk 1 _ rfl; have f1 := free_at hW1.blk 1; have HW1 := Lib.hid hW1; have HF1 := Lib.hid hF1; clear hW1 hF1)) | fail)
      go_ret
      rw [HR2.out]
      exact ⟨rfl, FIN.out _ _ HW1.out, HF1.out.setCell _ _ (fun _ => rfl)⟩
    · have HR2 := Lib.hid (show rflag s = (decide (c = 1), ⟨b2, false⟩) by rw [HR.out, if_neg (by simp; omega)]; rfl)
      have t1 : decide ((1 : Int) < (c.toNat : Int)) = false := by simp; omega
      have t2 : decide (1 < c.toNat) = false := by simp; omega
      by_cases h2 : c.toNat = 1
      · have HD := Lib.hid (show decide (c = 1) = true by simp [hb1, h2])
        have t3 : ((c.toNat : Int) == 1) = true := by rw [h2]; rfl
        clear hb1 he HR h1 h2
        go_enter Try.func140, Try.ntmps140
        go_wp2_with (first | (go_at_call 141; go_loud (refine (take_any p 1 s _ H.out).mono ?_; rintro e w1 ⟨rfl, hW1, hF1⟩; rw [HX.out] at hW1 ⊢; have x1' : w1.cell? ⟨p, 1, none⟩ = some (.bool false) := cells_at hW1.blk 1 _ rfl; have f1 := free_at hW1.blk 1; have HW1 := Lib.hid hW1; have HF1 := Lib.hid hF1; clear hW1 hF1)) | fail)
        go_ret
        rw [HR2.out, HD.out]
        exact ⟨by first | rfl | simp, FIN.out _ _ HW1.out, HF1.out.setCell _ _ (fun _ => rfl)⟩
      · have HD := Lib.hid (show decide (c = 1) = false by simp [hb1, h2])
        have t3 : ((c.toNat : Int) == 1) = false := by simp; omega
        clear hb1 he HR h1 h2
        go_enter Try.func140, Try.ntmps140
        go_wp2_with (first | (go_at_call 141; go_loud (refine (take_any p 1 s _ H.out).mono ?_; rintro e w1 ⟨rfl, hW1, hF1⟩; rw [HX.out] at hW1 ⊢; have x1' : w1.cell? ⟨p, 1, none⟩ = some (.bool false) := cells_at hW1.blk 1 _ rfl; have f1 := free_at hW1.blk 1; have HW1 := Lib.hid hW1; have HF1 := Lib.hid hF1; clear hW1 hF1)) | fail)
        go_ret
        rw [HR2.out, HD.out]
        exact ⟨by first | rfl | simp, FIN.out _ _ HW1.out, HF1.out.setCell _ _ (fun _ => rfl)⟩

set_option maxHeartbeats 1000000 in
set_option maxRecDepth 100000 in
theorem rcol_any (p : Nat) (s : RS) (w : World) (h : RdAt w p s) : Calls Try.prog 114 #[.pointer (some ⟨p, 0, none⟩)] w (RdPost w p (.agg #[.string (rcol s).1.1, .int .i64 (rcol s).1.2]) (rcol s).2) := by
  have H := Lib.hid h
  have hlt := heap_lt h.blk
  have HR := Lib.hid (show rcol s = (((rtext s).1, (rnum (rtext s).2).1), (rnum (rtext s).2).2) from rfl)
  have hf0 := Fr.alloc (Fr.refl no w) (.cells #[.string ⟨#[]⟩, .int .i64 0] 43)
  have HF0 := Lib.hid hf0
  have hne : w.heap.size ≠ p := by omega
  clear h hf0
  go_enter Try.func114, Try.ntmps114
  go_wp2_with (first | (go_at_call 116; go_loud (refine (rtxt_any p s _ (H.out.later HF0.out)).mono ?_; rintro e w1 ⟨rfl, hW1, hF1⟩; have hb := hF1.keep (heap_alloc_at w _) hne; have y0 := free_at hb 0; have y1 : w1.cell? ⟨w.heap.size, 0, none⟩ = some (.string ⟨#[]⟩) := cells_at hb 0 _ rfl; have hb1 := heap_setCell_at hb 0 (.string (rtext s).1); have HB1 := Lib.hid hb1; have HW1 := Lib.hid hW1; have HF1 := Lib.hid hF1; clear hW1 hF1 hb hb1)) | (go_at_call 118; go_loud (refine (rplace_any p _ _ ⟨(Below.heap_setCell _ _ _ _ (by simp; omega)).trans HW1.out.blk, HW1.out.sz⟩).mono ?_; rintro e w2 ⟨rfl, hW2, hF2⟩; have hb := hF2.keep HB1.out hne; have y2 := free_at hb 1; have y2' := free_at hb 0; have y3 : w2.cell? ⟨w.heap.size, 1, none⟩ = some (.int .i64 0) := cells_at hb 1 _ rfl; have y4 : w2.cell? ⟨w.heap.size, 0, none⟩ = some (.string (rtext s).1) := cells_at hb 0 _ rfl; have HB2 := Lib.hid hb; have HW2 := Lib.hid hW2; have HF2 := Lib.hid hF2; clear hW2 hF2 hb)) | fail)
  have hfin := fr_set2 (w2.setCell ⟨w.heap.size, 1, none⟩ (.int .i64 (rnum (rtext s).2).1)) w.heap.size (.string (rtext s).1) (.int .i64 (rnum (rtext s).2).1)
  have hfin1 : Fr (fun k => k = w.heap.size) w2 (w2.setCell ⟨w.heap.size, 1, none⟩ (.int .i64 (rnum (rtext s).2).1)) := (Fr.refl _ w2).setCell _ _ (fun _ => rfl)
  have hff := hfin1.trans hfin (fun _ _ q => q)
  have hh := heap_setCell_at (heap_setCell_at (heap_setCell_at HB2.out 1 (.int .i64 (rnum (rtext s).2).1)) 0 (.string (rtext s).1)) 1 (.int .i64 (rnum (rtext s).2).1)
  simp only [List.setIfInBounds_toArray, List.set_cons_zero, List.set_cons_succ] at hh
  have hf1s : Fr (fun k => k = w.heap.size) w1 (w1.setCell ⟨w.heap.size, 0, none⟩ (.string (rtext s).1)) := (Fr.refl _ w1).setCell _ _ (fun _ => rfl)
  refine bodyPost_ret (v := .agg #[.string (rtext s).1, .int .i64 (rnum (rtext s).2).1]) (results_cell_row rfl _ _ _ 43 _ _ _ rfl hh Try.underlying43 rfl (by kernel_rfl)) rfl ?_
  rw [HR.out]
  refine ⟨rfl, ⟨hff.keep HW2.out.blk (fun q => hne q.symm), HW2.out.sz⟩, ?_⟩
  exact ((((HF0.out.mono (T := fun k => k = p ∨ w.heap.size ≤ k) (fun _ _ q => q.elim)).trans HF1.out (fun _ _ q => .inl q)).trans hf1s (fun i _ q => .inr (by have q' : i = w.heap.size := q; omega))).trans HF2.out (fun _ _ q => .inl q)).trans hff (fun i _ q => .inr (by have q' : i = w.heap.size := q; omega)) |>.mono (fun i hi q => by rcases q with q | q; exact q; omega)
end Go.Proofs.Ythmjjbgjbcnjmaa

namespace Go.Proofs.Ythmjjbgjbcnjmaa
open Go.RowKit Go.Hop

theorem RdAt.flag {w : World} {p : Nat} {s : RS} (h : RdAt w p s) (u : Bool) : RdAt (w.setCell ⟨p, 1, none⟩ (.bool u)) p ⟨s.b, u⟩ ∧ Fr (fun k => k = p) w (w.setCell ⟨p, 1, none⟩ (.bool u)) :=
  ⟨⟨by have := heap_setCell_at h.blk 1 (.bool u); simpa using this, h.sz⟩, (Fr.refl _ w).setCell _ _ (fun _ => rfl)⟩
theorem rlistN_bad {α : Type} (each : RS → α × RS) (k : Nat) (s : RS) (h : s.bad = true) : rlistN each k s = ([], s) := by
  cases k with
  | zero => rfl
  | succ k => simp only [rlistN]; rw [if_pos h]
theorem rlistN_go {α : Type} (each : RS → α × RS) (k : Nat) (s : RS) (h : s.bad = false) : rlistN each (k + 1) s = ((each s).1 :: (rlistN each k (each s).2).1, (rlistN each k (each s).2).2) := by
  simp only [rlistN]; rw [if_neg (by rw [h]; simp)]
theorem toI64_bd (n : Nat) (h : n < 18446744073709551616) : -9223372036854775808 ≤ toI64 n ∧ toI64 n ≤ 9223372036854775807 := by
  unfold toI64; split <;> omega
theorem rnum_bd (s : RS) : -9223372036854775808 ≤ (rnum s).1 ∧ (rnum s).1 ≤ 9223372036854775807 := by
  have h8 := rtake8_len s
  have hn := le64_lt (bl (rtake s 8).1)
  exact toI64_bd _ (Nat.lt_of_lt_of_le hn (by have := Nat.pow_le_pow_right (show 0 < 256 by omega) h8; simpa using this))
/-- a row of indexes, its own, whose inner blocks are newer than w0 and another than the row's -/
structure IxOwn (w : World) (base : Nat) (v : Value) (l : List Ix) (svs : List Value) : Prop where
  len : svs.length = l.length
  row : w.ownsRow base 91 3 v l.length (icells l svs)
  each : ∀ (j : Nat) (x : Ix) (u : Value), l[j]? = some x → svs[j]? = some u → RcK w (fun k => base ≤ k ∧ v.ownBlock ≠ some k) 1 u x.cols.length (x.cols.map encI)
theorem icells_append : ∀ (l : List Ix) (svs : List Value) (x : Ix) (u : Value), svs.length = l.length → icells (l ++ [x]) (svs ++ [u]) = icells l svs ++ [.string x.name, u, .bool x.uniq]
  | [], [], _, _, _ => rfl
  | [], _ :: _, _, _, h => by simp at h
  | _ :: _, [], _, _, h => by simp at h
  | y :: l, v :: svs, x, u, h => by
    have ih := icells_append l svs x u (by simpa using h)
    simp only [List.cons_append, icells, ih]
theorem IxOwn.keep {S : Nat → Prop} {w w' : World} {base : Nat} {v : Value} {l : List Ix} {svs : List Value} (h : IxOwn w base v l svs) (hf : Fr S w w') (hs : ∀ k, base ≤ k → ¬ S k) : IxOwn w' base v l svs :=
  ⟨h.len, hf.owns h.row (fun k hk => hs k (h.row.lt k hk).1), fun j x u q1 q2 => (h.each j x u q1 q2).keep hf (fun k _ q => hs k q.1)⟩
theorem IxOwn.snoc {w w0 w1 : World} {base : Nat} {v v' : Value} {l : List Ix} {svs : List Value} {x : Ix} {u : Value} {B : Nat} (h : IxOwn w base v l svs) (hB : base ≤ B) (hv : ∀ k, v.ownBlock = some k → k < B) (hu : RcK w (fun k => B ≤ k) 1 u x.cols.length (x.cols.map encI)) (hf : Fr no w w0)
    (ho : w1.ownsRow base 91 3 v' (l.length + 1) (icells l svs ++ [.string x.name, u, .bool x.uniq])) (hg : w0.grownBy w1 v.ownBlock) (hl : v'.ownBlock = v.ownBlock ∨ v'.ownBlock = some w0.heap.size) : IxOwn w1 base v' (l ++ [x]) (svs ++ [u]) := by
  have hz : Fr (fun k => some k = v.ownBlock) w w1 := (hf.mono (fun _ _ q => q.elim)).trans (Fr.grown hg) (fun _ _ q => q)
  have hsz := hf.size
  have newK : ∀ {y : Value} {n : Nat} {cs : List Value} {K : Nat → Prop}, RcK w K 1 y n cs → (∀ k, K k → base ≤ k ∧ v.ownBlock ≠ some k) → RcK w1 (fun k => base ≤ k ∧ v'.ownBlock ≠ some k) 1 y n cs := fun {y n cs K} q hK => by
    have q1 := q.mono (K' := fun k => K k ∧ k < w.heap.size) (fun k hk z => ⟨z, hk⟩)
    refine (q1.keep hz (fun k _ z y => (hK k z.1).2 y.symm)).mono (fun k _ z => ⟨(hK k z.1).1, fun y => ?_⟩)
    rcases hl with hl | hl
    · exact (hK k z.1).2 (hl ▸ y)
    · rw [hl] at y; injection y with y; omega
  refine ⟨by simp [h.len], ?_, fun j y z hy hzz => ?_⟩
  · rw [icells_append _ _ _ _ h.len]; simpa using ho
  · by_cases hj : j < l.length
    · rw [List.getElem?_append_left hj] at hy
      rw [List.getElem?_append_left (by rw [h.len]; exact hj)] at hzz
      exact newK (h.each j y z hy hzz) (fun k q => q)
    · have hj2 : j = l.length := by have := (List.getElem?_eq_some_iff.1 hy).1; simp at this; omega
      subst hj2
      rw [List.getElem?_append_right (Nat.le_refl _)] at hy
      rw [← h.len, List.getElem?_append_right (Nat.le_refl _)] at hzz
      simp at hy hzz
      subst hy hzz
      exact newK hu (fun k q => ⟨by omega, fun y => by have := hv k y; omega⟩)
theorem IxOwn.nil (w : World) (base : Nat) : IxOwn w base (.slice none 0 0) [] [] := ⟨rfl, World.ownsRow_nil _ _ 91 3, fun j x u h => by simp at h⟩
theorem IxOwn.at_ {w : World} {base : Nat} {v : Value} {l : List Ix} {svs : List Value} (h : IxOwn w base v l svs) : IdxAt w (fun k => base ≤ k) v l svs := by
  refine ⟨h.len, RcK.of_owns h.row ?_, fun j x u q1 q2 => (h.each j x u q1 q2).mono (fun k _ q => q.1)⟩
  intro u hu
  obtain ⟨j, hj⟩ := List.getElem?_of_mem hu
  have hjl : j < l.length * 3 := by have := (List.getElem?_eq_some_iff.1 hj).1; rwa [icells_len _ _ h.len] at this
  obtain ⟨x, hx⟩ : ∃ x, l[j / 3]? = some x := ⟨_, List.getElem?_eq_getElem (by omega)⟩
  obtain ⟨v, hv⟩ : ∃ v, svs[j / 3]? = some v := ⟨_, List.getElem?_eq_getElem (by rw [h.len]; omega)⟩
  obtain ⟨q1, q2, q3⟩ := icells_at l svs (j / 3) x v hx hv
  rcases (by omega : j = j / 3 * 3 ∨ j = j / 3 * 3 + 1 ∨ j = j / 3 * 3 + 2) with e | e | e
  · rw [e, q1] at hj; injection hj with hj; subst hj; rfl
  · rw [e, q2] at hj; injection hj with hj; subst hj
    obtain ⟨A, c, rfl, _⟩ := (h.each (j / 3) x v hx hv).rc.form
    rfl
  · rw [e, q3] at hj; injection hj with hj; subst hj; rfl
theorem RdAt.keepG {w w' : World} {p : Nat} {s : RS} {row : Option Nat} (h : RdAt w p s) (hg : w.grownBy w' row) (hn : ¬ some p = row) : RdAt w' p s := ⟨(Fr.grown hg).keep h.blk hn, h.sz⟩

def LP139 (w : World) (p : Nat) (l : List Int) (s : RS) (e : Ending) (w' : World) : Prop := ∃ v, e = .returned v ∧ w'.ownsRow w.heap.size 3 1 v l.length (l.map encI) ∧ RdAt w' p s ∧ Fr (fun k => k = p) w w'
set_option maxHeartbeats 1000000 in
set_option maxRecDepth 100000 in
theorem rlist139_any (p : Nat) (s : RS) (w : World) (h : RdAt w p s) : Calls Try.prog 139 #[.pointer (some ⟨p, 0, none⟩), .func (.func 118) #[.pointer (some ⟨p, 0, none⟩)] #[]] w (LP139 w p (rlist rnum s).1 (rlist rnum s).2) := by
  have H := Lib.hid h
  have hps := heap_lt h.blk
  have hbd := rnum_bd s
  have HR := Lib.hid (show rlist rnum s = if (rnum s).2.bad = true ∨ (rnum s).1 < 0 ∨ 4096 < (rnum s).1 then ([], ⟨(rnum s).2.b, true⟩) else rlistN rnum (rnum s).1.toNat (rnum s).2 from rfl)
  generalize hx : rnum s = x at *
  have HX := Lib.hid hx
  obtain ⟨n, b2, bad⟩ := x
  simp only at HR hbd
  obtain ⟨hb1, hb2⟩ := hbd
  clear hx h
  by_cases hbad : bad = true ∨ n < 0 ∨ 4096 < n
  · have HR2 := Lib.hid (show rlist rnum s = ([], ⟨b2, true⟩) by rw [HR.out, if_pos hbad])
    have fin : ∀ w1, Fr (fun k => k = p) w w1 → RdAt w1 p ⟨b2, bad⟩ → LP139 w p [] ⟨b2, true⟩ (.returned (.slice none 0 0)) (w1.setCell ⟨p, 1, none⟩ (.bool true)) := fun w1 hf hr => ⟨.slice none 0 0, rfl, World.ownsRow_nil _ _ 3 1, (hr.flag true).1, hf.trans (hr.flag true).2 (fun _ _ q => q)⟩
    have FIN := Lib.hid fin
    clear fin HR
    have cases3 : bad = true ∨ (bad = false ∧ n < 0) ∨ (bad = false ∧ ¬ n < 0 ∧ 4096 < n) := by
      cases bad with
      | true => exact .inl rfl
      | false => right; by_cases q : n < 0; exact .inl ⟨rfl, q⟩; exact .inr ⟨rfl, q, by simpa [q] using hbad⟩
    clear hbad
    rcases cases3 with rfl | ⟨rfl, hn⟩ | ⟨rfl, hn, hn2⟩
    · by_cases hn0 : 0 < n
      · have t1 : decide ((0 : Int) < n) = true := by simpa using hn0
        clear hb1 hb2
        go_enter Try.func139, Try.ntmps139
        go_wp2_with (first | (go_at_call 142; go_loud (refine (num_any p s _ H.out).mono ?_; rintro e w1 ⟨rfl, hW1, hF1⟩; rw [HX.out] at hW1 ⊢; have x1 : w1.cell? ⟨p, 1, none⟩ = some (.bool true) := cells_at hW1.blk 1 _ rfl; have x2 := free_at hW1.blk 1; have y1 : (w1.setCell ⟨p, 1, none⟩ (.bool true)).cell? ⟨p, 1, none⟩ = some (.bool true) := cells_at ((hW1.flag true).1.blk) 1 _ rfl; have HW1 := Lib.hid hW1; have HF1 := Lib.hid hF1; clear hW1 hF1)) | fail)
        have HFN := Lib.hid (FIN.out w1 HF1.out HW1.out)
        clear x1 x2 HW1 HF1
        generalize w1.setCell ⟨p, 1, none⟩ (.bool true) = w2 at *
        go_loopw [5, 6] (fun nn out wr => nn = .int .i64 n ∧ out = .slice none 0 0 ∧ wr = w2) (fun _ _ _ => 0)
        case atStart => exact ⟨rfl, rfl, rfl⟩
        case round =>
          obtain ⟨rfl, rfl, rfl⟩ := hrel
          go_wp2_with fail
          go_ret
          rw [HR2.out]
          exact HFN.out

      · have t1 : decide ((0 : Int) < n) = false := by simpa using hn0
        clear hb1 hb2
        go_enter Try.func139, Try.ntmps139
        go_wp2_with (first | (go_at_call 142; go_loud (refine (num_any p s _ H.out).mono ?_; rintro e w1 ⟨rfl, hW1, hF1⟩; rw [HX.out] at hW1 ⊢; have x1 : w1.cell? ⟨p, 1, none⟩ = some (.bool true) := cells_at hW1.blk 1 _ rfl; have x2 := free_at hW1.blk 1; have y1 : (w1.setCell ⟨p, 1, none⟩ (.bool true)).cell? ⟨p, 1, none⟩ = some (.bool true) := cells_at ((hW1.flag true).1.blk) 1 _ rfl; have HW1 := Lib.hid hW1; have HF1 := Lib.hid hF1; clear hW1 hF1)) | fail)
        have HFN := Lib.hid (FIN.out w1 HF1.out HW1.out)
        clear x1 x2 HW1 HF1
        generalize w1.setCell ⟨p, 1, none⟩ (.bool true) = w2 at *
        go_loopw [5, 6] (fun nn out wr => nn = .int .i64 n ∧ out = .slice none 0 0 ∧ wr = w2) (fun _ _ _ => 0)
        case atStart => exact ⟨rfl, rfl, rfl⟩
        case round =>
          obtain ⟨rfl, rfl, rfl⟩ := hrel
          go_wp2_with fail
          go_ret
          rw [HR2.out]
          exact HFN.out

    · have t0 : decide (n < 0) = true := by simpa using hn
      have t1 : decide ((0 : Int) < n) = false := by simp; omega
      clear hb1 hb2
      go_enter Try.func139, Try.ntmps139
      go_wp2_with (first | (go_at_call 142; go_loud (refine (num_any p s _ H.out).mono ?_; rintro e w1 ⟨rfl, hW1, hF1⟩; rw [HX.out] at hW1 ⊢; have x1 : w1.cell? ⟨p, 1, none⟩ = some (.bool false) := cells_at hW1.blk 1 _ rfl; have x2 := free_at hW1.blk 1; have y1 : (w1.setCell ⟨p, 1, none⟩ (.bool true)).cell? ⟨p, 1, none⟩ = some (.bool true) := cells_at ((hW1.flag true).1.blk) 1 _ rfl; have HW1 := Lib.hid hW1; have HF1 := Lib.hid hF1; clear hW1 hF1)) | fail)
      have HFN := Lib.hid (FIN.out w1 HF1.out HW1.out)
      clear x1 x2 HW1 HF1
      generalize w1.setCell ⟨p, 1, none⟩ (.bool true) = w2 at *
      go_loopw [5, 6] (fun nn out wr => nn = .int .i64 n ∧ out = .slice none 0 0 ∧ wr = w2) (fun _ _ _ => 0)
      case atStart => exact ⟨rfl, rfl, rfl⟩
      case round =>
        obtain ⟨rfl, rfl, rfl⟩ := hrel
        go_wp2_with fail
        go_ret
        rw [HR2.out]
        exact HFN.out

    · have t0 : decide (n < 0) = false := by simpa using hn
      have t2 : decide ((4096 : Int) < n) = true := by simpa using hn2
      have t1 : decide ((0 : Int) < n) = true := by simp; omega
      clear hb1 hb2
      go_enter Try.func139, Try.ntmps139
      go_wp2_with (first | (go_at_call 142; go_loud (refine (num_any p s _ H.out).mono ?_; rintro e w1 ⟨rfl, hW1, hF1⟩; rw [HX.out] at hW1 ⊢; have x1 : w1.cell? ⟨p, 1, none⟩ = some (.bool false) := cells_at hW1.blk 1 _ rfl; have x2 := free_at hW1.blk 1; have y1 : (w1.setCell ⟨p, 1, none⟩ (.bool true)).cell? ⟨p, 1, none⟩ = some (.bool true) := cells_at ((hW1.flag true).1.blk) 1 _ rfl; have HW1 := Lib.hid hW1; have HF1 := Lib.hid hF1; clear hW1 hF1)) | fail)
      have HFN := Lib.hid (FIN.out w1 HF1.out HW1.out)
      clear x1 x2 HW1 HF1
      generalize w1.setCell ⟨p, 1, none⟩ (.bool true) = w2 at *
      go_loopw [5, 6] (fun nn out wr => nn = .int .i64 n ∧ out = .slice none 0 0 ∧ wr = w2) (fun _ _ _ => 0)
      case atStart => exact ⟨rfl, rfl, rfl⟩
      case round =>
        obtain ⟨rfl, rfl, rfl⟩ := hrel
        go_wp2_with fail
        go_ret
        rw [HR2.out]
        exact HFN.out

  · have hbf : bad = false := by cases bad; rfl; exact absurd (.inl rfl) hbad
    have h0 : ¬ n < 0 := fun q => hbad (.inr (.inl q))
    have h1 : ¬ 4096 < n := fun q => hbad (.inr (.inr q))
    subst hbf
    obtain ⟨N, rfl⟩ : ∃ m : Nat, n = m := ⟨n.toNat, by omega⟩
    have HR2 := Lib.hid (show rlist rnum s = rlistN rnum N ⟨b2, false⟩ by rw [HR.out, if_neg hbad, Int.toNat_natCast])
    have t0 : decide ((N : Int) < 0) = false := by simp
    have t2 : decide ((4096 : Int) < (N : Int)) = false := by simp; omega
    have hN : N ≤ 4096 := by omega
    clear hbad HR h0 h1 hb1 hb2
    go_enter Try.func139, Try.ntmps139
    go_upto_block 0 with (first | (go_at_call 142; go_loud (refine (num_any p s _ H.out).mono ?_; rintro e w1 ⟨rfl, hW1, hF1⟩; rw [HX.out] at hW1 ⊢; have x1 : w1.cell? ⟨p, 1, none⟩ = some (.bool false) := cells_at hW1.blk 1 _ rfl; have x2 := free_at hW1.blk 1; have HW1 := Lib.hid hW1; have HF1 := Lib.hid hF1; clear hW1 hF1)) | fail)
    have hq := HW1.out.flag false
    have HQ := Lib.hid (And.intro hq.1 (HF1.out.trans hq.2 (fun _ _ q => q)))
    clear hq x1 x2 HW1 HF1
    generalize w1.setCell ⟨p, 1, none⟩ (.bool false) = w2 at *
    go_cut [6] (fun u6 wc => wc.ownsRow w.heap.size 3 1 u6 (rlistN rnum N ⟨b2, false⟩).1.length ((rlistN rnum N ⟨b2, false⟩).1.map encI) ∧ RdAt wc p (rlistN rnum N ⟨b2, false⟩).2 ∧ Fr (fun k => k = p) w wc)
    case first =>
      go_wp2_with fail
      go_loopw [5, 6] (fun nn out wr => ∃ (r : Nat) (sc : RS) (acc : List Int), nn = .int .i64 r ∧ r + acc.length = N ∧ Hid (RdAt wr p sc) ∧ Hid (wr.ownsRow w.heap.size 3 1 out acc.length (acc.map encI)) ∧ Hid (Fr (fun k => k = p) w wr) ∧ Hid (rlistN rnum N ⟨b2, false⟩ = (acc ++ (rlistN rnum r sc).1, (rlistN rnum r sc).2))) (fun nn _ _ => (intOf nn).toNat)
      case atStart => exact ⟨N, ⟨b2, false⟩, [], rfl, by simp, Lib.hid HQ.out.1, Lib.hid (World.ownsRow_nil _ _ 3 1), Lib.hid HQ.out.2, Lib.hid (by simp)⟩
      case round =>
        clear HQ
        obtain ⟨r, sc, acc, rfl, hr, hR, hO, hF, hE⟩ := hrel
        obtain ⟨sb, sbad⟩ := sc
        have y1 : wr.cell? ⟨p, 1, none⟩ = some (.bool sbad) := cells_at hR.out.blk 1 _ rfl
        have hws := hF.out.size
        cases r with
        | zero =>
          have hEE := hE.out
          simp only [rlistN, List.append_nil] at hEE
          have HEE := Lib.hid hEE
          clear hEE hE
          have u1 : decide ((0 : Int) < ((0 : Nat) : Int)) = false := by simp
          cases sbad
          all_goals
            go_wp2_with fail
            go_meet
            case rel => rw [HEE.out]; exact ⟨hO.out, hR.out, hF.out⟩
        | succ r =>
          have u1 : decide ((0 : Int) < ((r + 1 : Nat) : Int)) = true := decide_eq_true (by omega)
          have hcast : ((r + 1 : Nat) : Int) = (r : Int) + 1 := by omega
          cases sbad with
          | true =>
            have hEE := hE.out
            rw [rlistN_bad _ (r + 1) ⟨sb, true⟩ rfl] at hEE
            simp only [List.append_nil] at hEE
            have HEE := Lib.hid hEE
            clear hEE hE hcast
            go_wp2_with fail
            go_meet
            case rel => rw [HEE.out]; exact ⟨hO.out, hR.out, hF.out⟩
          | false =>
            have hEE := hE.out
            rw [rlistN_go _ r ⟨sb, false⟩ rfl] at hEE
            have HEE := Lib.hid hEE
            clear hEE hE
            generalize hxx : rnum ⟨sb, false⟩ = xx at *
            obtain ⟨y, s2⟩ := xx
            have HXX := Lib.hid hxx
            have hlen : acc.length + 1 ≤ 4096 := by omega
            have hbs : w.heap.size ≤ wr.heap.size := hws
            rw [hcast] at *
            clear hxx hcast
            have ho := hO.out
            generalize hM : acc.length = M at *
            obtain ⟨Av, cv, rfl⟩ := owns_slice ho
            have HO := Lib.hid ho
            have HM := Lib.hid hM
            have HLO := Lib.hid (fun k hk => (ho.lt k hk).1)
            clear ho hM hO
            go_wp2_with (first | (go_at_call 118; go_loud (refine (rplace_any p _ _ hR.out).mono ?_; rintro e w3 ⟨rfl, hW3, hF3⟩; rw [HXX.out] at hW3 ⊢; have hs3 := hF3.size; have HO3 := Lib.hid (hF3.owns HO.out (fun k hk q => by have := HLO.out k hk; omega)); have HW3 := Lib.hid hW3; have HF3 := Lib.hid hF3; clear hW3 hF3)) | (at_builtin; go_loud (refine wp_append rfl (.tmp 35) (.tmp 38) 29 rfl El29 (.slice Av M cv) M _ rfl (HO3.out.alloc _) _ 1 [.int .i64 y] rfl (rc_new1 _ _ _) (by unfold maxLen; omega) (by omega) (by simp; omega) ?_; intro v4 w4 ho4 hg4 hloc4; have HO4 := Lib.hid ho4; have HG4 := Lib.hid hg4; clear ho4 hg4 hloc4)) | fail)
            go_roundw
            case rel => exact ⟨r, s2, acc ++ [y], by go_num, by rw [List.length_append, HM.out, List.length_singleton]; omega, Lib.hid ((HW3.out.later ((Fr.refl no w3).alloc _)).keepG HG4.out (fun q => by have := HLO.out p q.symm; omega)), Lib.hid (by have h := HO4.out; rw [show acc.map encI ++ [Value.int .i64 y] = (acc ++ [y]).map encI by simp] at h; rw [List.length_append, HM.out]; exact h), Lib.hid (((hF.out.trans HF3.out (fun _ _ q => q)).alloc _).trans (Fr.grown HG4.out) (fun i hi q => absurd hi (by have := HLO.out i q.symm; omega))), Lib.hid (by rw [HEE.out]; simp)⟩
            case measure => simp [intOf]
    case rest =>
      obtain ⟨hO, hR, hF⟩ := hcut
      obtain ⟨Aq, cq, rfl⟩ := owns_slice hO
      go_wp2_with fail
      go_ret
      rw [HR2.out]
      exact ⟨_, rfl, hO, hR, hF⟩

def LP117 (w : World) (p : Nat) (l : List Col) (s : RS) (e : Ending) (w' : World) : Prop := ∃ v, e = .returned v ∧ w'.ownsRow w.heap.size 43 2 v l.length (ccells l) ∧ RdAt w' p s ∧ Fr (fun k => k = p) w w'
set_option maxHeartbeats 1000000 in
set_option maxRecDepth 100000 in
theorem rlist117_any (p : Nat) (s : RS) (w : World) (h : RdAt w p s) : Calls Try.prog 117 #[.pointer (some ⟨p, 0, none⟩), .func (.func 114) #[.pointer (some ⟨p, 0, none⟩)] #[]] w (LP117 w p (rlist rcol s).1 (rlist rcol s).2) := by
  have H := Lib.hid h
  have hps := heap_lt h.blk
  have hbd := rnum_bd s
  have HR := Lib.hid (show rlist rcol s = if (rnum s).2.bad = true ∨ (rnum s).1 < 0 ∨ 4096 < (rnum s).1 then ([], ⟨(rnum s).2.b, true⟩) else rlistN rcol (rnum s).1.toNat (rnum s).2 from rfl)
  generalize hx : rnum s = x at *
  have HX := Lib.hid hx
  obtain ⟨n, b2, bad⟩ := x
  simp only at HR hbd
  obtain ⟨hb1, hb2⟩ := hbd
  clear hx h
  by_cases hbad : bad = true ∨ n < 0 ∨ 4096 < n
  · have HR2 := Lib.hid (show rlist rcol s = ([], ⟨b2, true⟩) by rw [HR.out, if_pos hbad])
    have fin : ∀ w1, Fr (fun k => k = p) w w1 → RdAt w1 p ⟨b2, bad⟩ → LP117 w p [] ⟨b2, true⟩ (.returned (.slice none 0 0)) (w1.setCell ⟨p, 1, none⟩ (.bool true)) := fun w1 hf hr => ⟨.slice none 0 0, rfl, World.ownsRow_nil _ _ 43 2, (hr.flag true).1, hf.trans (hr.flag true).2 (fun _ _ q => q)⟩
    have FIN := Lib.hid fin
    clear fin HR
    have cases3 : bad = true ∨ (bad = false ∧ n < 0) ∨ (bad = false ∧ ¬ n < 0 ∧ 4096 < n) := by
      cases bad with
      | true => exact .inl rfl
      | false => right; by_cases q : n < 0; exact .inl ⟨rfl, q⟩; exact .inr ⟨rfl, q, by simpa [q] using hbad⟩
    clear hbad
    rcases cases3 with rfl | ⟨rfl, hn⟩ | ⟨rfl, hn, hn2⟩
    · by_cases hn0 : 0 < n
      · have t1 : decide ((0 : Int) < n) = true := by simpa using hn0
        clear hb1 hb2
        go_enter Try.func117, Try.ntmps117
        go_wp2_with (first | (go_at_call 142; go_loud (refine (num_any p s _ H.out).mono ?_; rintro e w1 ⟨rfl, hW1, hF1⟩; rw [HX.out] at hW1 ⊢; have x1 : w1.cell? ⟨p, 1, none⟩ = some (.bool true) := cells_at hW1.blk 1 _ rfl; have x2 := free_at hW1.blk 1; have y1 : (w1.setCell ⟨p, 1, none⟩ (.bool true)).cell? ⟨p, 1, none⟩ = some (.bool true) := cells_at ((hW1.flag true).1.blk) 1 _ rfl; have HW1 := Lib.hid hW1; have HF1 := Lib.hid hF1; clear hW1 hF1)) | fail)
        have HFN := Lib.hid (FIN.out w1 HF1.out HW1.out)
        clear x1 x2 HW1 HF1
        generalize w1.setCell ⟨p, 1, none⟩ (.bool true) = w2 at *
        go_loopw [5, 6] (fun nn out wr => nn = .int .i64 n ∧ out = .slice none 0 0 ∧ wr = w2) (fun _ _ _ => 0)
        case atStart => exact ⟨rfl, rfl, rfl⟩
        case round =>
          obtain ⟨rfl, rfl, rfl⟩ := hrel
          go_wp2_with fail
          go_ret
          rw [HR2.out]
          exact HFN.out

      · have t1 : decide ((0 : Int) < n) = false := by simpa using hn0
        clear hb1 hb2
        go_enter Try.func117, Try.ntmps117
        go_wp2_with (first | (go_at_call 142; go_loud (refine (num_any p s _ H.out).mono ?_; rintro e w1 ⟨rfl, hW1, hF1⟩; rw [HX.out] at hW1 ⊢; have x1 : w1.cell? ⟨p, 1, none⟩ = some (.bool true) := cells_at hW1.blk 1 _ rfl; have x2 := free_at hW1.blk 1; have y1 : (w1.setCell ⟨p, 1, none⟩ (.bool true)).cell? ⟨p, 1, none⟩ = some (.bool true) := cells_at ((hW1.flag true).1.blk) 1 _ rfl; have HW1 := Lib.hid hW1; have HF1 := Lib.hid hF1; clear hW1 hF1)) | fail)
        have HFN := Lib.hid (FIN.out w1 HF1.out HW1.out)
        clear x1 x2 HW1 HF1
        generalize w1.setCell ⟨p, 1, none⟩ (.bool true) = w2 at *
        go_loopw [5, 6] (fun nn out wr => nn = .int .i64 n ∧ out = .slice none 0 0 ∧ wr = w2) (fun _ _ _ => 0)
        case atStart => exact ⟨rfl, rfl, rfl⟩
        case round =>
          obtain ⟨rfl, rfl, rfl⟩ := hrel
          go_wp2_with fail
          go_ret
          rw [HR2.out]
          exact HFN.out

    · have t0 : decide (n < 0) = true := by simpa using hn
      have t1 : decide ((0 : Int) < n) = false := by simp; omega
      clear hb1 hb2
      go_enter Try.func117, Try.ntmps117
      go_wp2_with (first | (go_at_call 142; go_loud (refine (num_any p s _ H.out).mono ?_; rintro e w1 ⟨rfl, hW1, hF1⟩; rw [HX.out] at hW1 ⊢; have x1 : w1.cell? ⟨p, 1, none⟩ = some (.bool false) := cells_at hW1.blk 1 _ rfl; have x2 := free_at hW1.blk 1; have y1 : (w1.setCell ⟨p, 1, none⟩ (.bool true)).cell? ⟨p, 1, none⟩ = some (.bool true) := cells_at ((hW1.flag true).1.blk) 1 _ rfl; have HW1 := Lib.hid hW1; have HF1 := Lib.hid hF1; clear hW1 hF1)) | fail)
      have HFN := Lib.hid (FIN.out w1 HF1.out HW1.out)
      clear x1 x2 HW1 HF1
      generalize w1.setCell ⟨p, 1, none⟩ (.bool true) = w2 at *
      go_loopw [5, 6] (fun nn out wr => nn = .int .i64 n ∧ out = .slice none 0 0 ∧ wr = w2) (fun _ _ _ => 0)
      case atStart => exact ⟨rfl, rfl, rfl⟩
      case round =>
        obtain ⟨rfl, rfl, rfl⟩ := hrel
        go_wp2_with fail
        go_ret
        rw [HR2.out]
        exact HFN.out

    · have t0 : decide (n < 0) = false := by simpa using hn
      have t2 : decide ((4096 : Int) < n) = true := by simpa using hn2
      have t1 : decide ((0 : Int) < n) = true := by simp; omega
      clear hb1 hb2
      go_enter Try.func117, Try.ntmps117
      go_wp2_with (first | (go_at_call 142; go_loud (refine (num_any p s _ H.out).mono ?_; rintro e w1 ⟨rfl, hW1, hF1⟩; rw [HX.out] at hW1 ⊢; have x1 : w1.cell? ⟨p, 1, none⟩ = some (.bool false) := cells_at hW1.blk 1 _ rfl; have x2 := free_at hW1.blk 1; have y1 : (w1.setCell ⟨p, 1, none⟩ (.bool true)).cell? ⟨p, 1, none⟩ = some (.bool true) := cells_at ((hW1.flag true).1.blk) 1 _ rfl; have HW1 := Lib.hid hW1; have HF1 := Lib.hid hF1; clear hW1 hF1)) | fail)
      have HFN := Lib.hid (FIN.out w1 HF1.out HW1.out)
      clear x1 x2 HW1 HF1
      generalize w1.setCell ⟨p, 1, none⟩ (.bool true) = w2 at *
      go_loopw [5, 6] (fun nn out wr => nn = .int .i64 n ∧ out = .slice none 0 0 ∧ wr = w2) (fun _ _ _ => 0)
      case atStart => exact ⟨rfl, rfl, rfl⟩
      case round =>
        obtain ⟨rfl, rfl, rfl⟩ := hrel
        go_wp2_with fail
        go_ret
        rw [HR2.out]
        exact HFN.out

  · have hbf : bad = false := by cases bad; rfl; exact absurd (.inl rfl) hbad
    have h0 : ¬ n < 0 := fun q => hbad (.inr (.inl q))
    have h1 : ¬ 4096 < n := fun q => hbad (.inr (.inr q))
    subst hbf
    obtain ⟨N, rfl⟩ : ∃ m : Nat, n = m := ⟨n.toNat, by omega⟩
    have HR2 := Lib.hid (show rlist rcol s = rlistN rcol N ⟨b2, false⟩ by rw [HR.out, if_neg hbad, Int.toNat_natCast])
    have t0 : decide ((N : Int) < 0) = false := by simp
    have t2 : decide ((4096 : Int) < (N : Int)) = false := by simp; omega
    have hN : N ≤ 4096 := by omega
    clear hbad HR h0 h1 hb1 hb2
    go_enter Try.func117, Try.ntmps117
    go_upto_block 0 with (first | (go_at_call 142; go_loud (refine (num_any p s _ H.out).mono ?_; rintro e w1 ⟨rfl, hW1, hF1⟩; rw [HX.out] at hW1 ⊢; have x1 : w1.cell? ⟨p, 1, none⟩ = some (.bool false) := cells_at hW1.blk 1 _ rfl; have x2 := free_at hW1.blk 1; have HW1 := Lib.hid hW1; have HF1 := Lib.hid hF1; clear hW1 hF1)) | fail)
    have hq := HW1.out.flag false
    have HQ := Lib.hid (And.intro hq.1 (HF1.out.trans hq.2 (fun _ _ q => q)))
    clear hq x1 x2 HW1 HF1
    generalize w1.setCell ⟨p, 1, none⟩ (.bool false) = w2 at *
    go_cut [6] (fun u6 wc => wc.ownsRow w.heap.size 43 2 u6 (rlistN rcol N ⟨b2, false⟩).1.length (ccells (rlistN rcol N ⟨b2, false⟩).1) ∧ RdAt wc p (rlistN rcol N ⟨b2, false⟩).2 ∧ Fr (fun k => k = p) w wc)
    case first =>
      go_wp2_with fail
      go_loopw [5, 6] (fun nn out wr => ∃ (r : Nat) (sc : RS) (acc : List Col), nn = .int .i64 r ∧ r + acc.length = N ∧ Hid (RdAt wr p sc) ∧ Hid (wr.ownsRow w.heap.size 43 2 out acc.length (ccells acc)) ∧ Hid (Fr (fun k => k = p) w wr) ∧ Hid (rlistN rcol N ⟨b2, false⟩ = (acc ++ (rlistN rcol r sc).1, (rlistN rcol r sc).2))) (fun nn _ _ => (intOf nn).toNat)
      case atStart => exact ⟨N, ⟨b2, false⟩, [], rfl, by simp, Lib.hid HQ.out.1, Lib.hid (World.ownsRow_nil _ _ 43 2), Lib.hid HQ.out.2, Lib.hid (by simp)⟩
      case round =>
        clear HQ
        obtain ⟨r, sc, acc, rfl, hr, hR, hO, hF, hE⟩ := hrel
        obtain ⟨sb, sbad⟩ := sc
        have y1 : wr.cell? ⟨p, 1, none⟩ = some (.bool sbad) := cells_at hR.out.blk 1 _ rfl
        have hws := hF.out.size
        cases r with
        | zero =>
          have hEE := hE.out
          simp only [rlistN, List.append_nil] at hEE
          have HEE := Lib.hid hEE
          clear hEE hE
          have u1 : decide ((0 : Int) < ((0 : Nat) : Int)) = false := by simp
          cases sbad
          all_goals
            go_wp2_with fail
            go_meet
            case rel => rw [HEE.out]; exact ⟨hO.out, hR.out, hF.out⟩
        | succ r =>
          have u1 : decide ((0 : Int) < ((r + 1 : Nat) : Int)) = true := decide_eq_true (by omega)
          have hcast : ((r + 1 : Nat) : Int) = (r : Int) + 1 := by omega
          cases sbad with
          | true =>
            have hEE := hE.out
            rw [rlistN_bad _ (r + 1) ⟨sb, true⟩ rfl] at hEE
            simp only [List.append_nil] at hEE
            have HEE := Lib.hid hEE
            clear hEE hE hcast
            go_wp2_with fail
            go_meet
            case rel => rw [HEE.out]; exact ⟨hO.out, hR.out, hF.out⟩
          | false =>
            have hEE := hE.out
            rw [rlistN_go _ r ⟨sb, false⟩ rfl] at hEE
            have HEE := Lib.hid hEE
            clear hEE hE
            generalize hxx : rcol ⟨sb, false⟩ = xx at *
            obtain ⟨y, s2⟩ := xx
            have HXX := Lib.hid hxx
            have hlen : acc.length + 1 ≤ 4096 := by omega
            have hbs : w.heap.size ≤ wr.heap.size := hws
            rw [hcast] at *
            clear hxx hcast
            have ho := hO.out
            generalize hM : acc.length = M at *
            obtain ⟨Av, cv, rfl⟩ := owns_slice ho
            have HO := Lib.hid ho
            have HM := Lib.hid hM
            have HLO := Lib.hid (fun k hk => (ho.lt k hk).1)
            clear ho hM hO
            go_wp2_with (first | (go_at_call 114; go_loud (refine (rcol_any p _ _ hR.out).mono ?_; rintro e w3 ⟨rfl, hW3, hF3⟩; rw [HXX.out] at hW3 ⊢; have hs3 := hF3.size; have HO3 := Lib.hid (hF3.owns HO.out (fun k hk q => by have := HLO.out k hk; omega)); have HW3 := Lib.hid hW3; have HF3 := Lib.hid hF3; clear hW3 hF3)) | (at_builtin; go_loud (refine wp_append rfl (.tmp 35) (.tmp 38) 38 rfl El38 (.slice Av M cv) M _ rfl (HO3.out.alloc _) _ 1 [.string y.1, .int .i64 y.2] rfl (rc_block (n := 1) (cs := [.string y.1, .int .i64 y.2]) (heap_alloc_at w3 _) rfl (by simp [Value.oneCell'])) (by unfold maxLen; omega) (by omega) (by simp; omega) ?_; intro v4 w4 ho4 hg4 hloc4; have HO4 := Lib.hid ho4; have HG4 := Lib.hid hg4; clear ho4 hg4 hloc4)) | fail)
            go_roundw
            case rel => exact ⟨r, s2, acc ++ [y], by go_num, by rw [List.length_append, HM.out, List.length_singleton]; omega, Lib.hid ((HW3.out.later ((Fr.refl no w3).alloc _)).keepG HG4.out (fun q => by have := HLO.out p q.symm; omega)), Lib.hid (by have h := HO4.out; rw [show ccells acc ++ [Value.string y.1, .int .i64 y.2] = ccells (acc ++ [y]) by simp [ccells]] at h; rw [List.length_append, HM.out]; exact h), Lib.hid (((hF.out.trans HF3.out (fun _ _ q => q)).alloc _).trans (Fr.grown HG4.out) (fun i hi q => absurd hi (by have := HLO.out i q.symm; omega))), Lib.hid (by rw [HEE.out]; simp)⟩
            case measure => simp [intOf]
    case rest =>
      obtain ⟨hO, hR, hF⟩ := hcut
      obtain ⟨Aq, cq, rfl⟩ := owns_slice hO
      go_wp2_with fail
      go_ret
      rw [HR2.out]
      exact ⟨_, rfl, hO, hR, hF⟩
end Go.Proofs.Ythmjjbgjbcnjmaa
