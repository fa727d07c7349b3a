import Derived.Test.YthmjjbgjbcnjmaaUg
namespace Go.Proofs.Ythmjjbgjbcnjmaa
open Go.RowKit Go.Hop

/-! ### Rows of schemas -/
def vcells : Value → List Value
  | .agg cs => cs.toList
  | _ => []
structure TabOk (t : Tab) : Prop where
  fit : TabFit t
  len : t.cols.length ≤ 2199023255552 ∧ t.idx.length ≤ 2199023255552
  ilen : ∀ x ∈ t.idx, x.cols.length ≤ 2199023255552
theorem tab_form {w : World} {K : Nat → Prop} {v : Value} {t : Tab} (h : TabAt w K v t) : ∃ A1 c1 A2 c2, v = .agg #[.string t.name, .slice A1 t.cols.length c1, .int .i64 t.key, .slice A2 t.idx.length c2] ∧ t.cols.length ≤ c1 ∧ t.idx.length ≤ c2 := by
  obtain ⟨vc, vi, svs, rfl, hc, hi⟩ := h.ex
  obtain ⟨A1, c1, rfl, z1⟩ := hc.rc.form
  obtain ⟨A2, c2, rfl, z2⟩ := hi.row.rc.form
  exact ⟨A1, c1, A2, c2, rfl, z1, z2⟩
theorem tab_cells {w : World} {K : Nat → Prop} {v : Value} {t : Tab} (h : TabAt w K v t) : (vcells v).length = 4 ∧ ∀ u ∈ vcells v, u.oneCell' = true := by
  obtain ⟨A1, c1, A2, c2, rfl, _⟩ := tab_form h
  refine ⟨rfl, fun u hu => ?_⟩
  simp only [vcells, List.mem_cons, List.not_mem_nil, or_false] at hu
  rcases hu with rfl | rfl | rfl | rfl <;> rfl
/-- cells of element j -/
theorem flat4_at : ∀ (vs : List Value) (j : Nat) (x : Value), (∀ y ∈ vs, (vcells y).length = 4) → vs[j]? = some x → ∀ i, i < 4 → (vs.flatMap vcells)[j * 4 + i]? = (vcells x)[i]?
  | [], _, _, _, h, _, _ => by simp at h
  | y :: vs, 0, x, hl, h, i, hi => by
    simp only [List.getElem?_cons_zero, Option.some.injEq] at h
    subst h
    have := hl y List.mem_cons_self
    rw [List.flatMap_cons, Nat.zero_mul, Nat.zero_add, List.getElem?_append_left (by omega)]
  | y :: vs, j + 1, x, hl, h, i, hi => by
    have h4 := hl y List.mem_cons_self
    have ih := flat4_at vs j x (fun z hz => hl z (List.mem_cons_of_mem _ hz)) (by simpa using h) i hi
    rw [List.flatMap_cons, List.getElem?_append_right (by omega), h4, show (j + 1) * 4 + i - 4 = j * 4 + i by omega]
    exact ih
/-- a row of schemas, its own, whose inner blocks lie in K -/
structure InAt (w : World) (base : Nat) (K : Nat → Prop) (v : Value) (ts : List Tab) : Prop where
  ex : ∃ vs : List Value, vs.length = ts.length ∧ w.ownsRow base 41 4 v ts.length (vs.flatMap vcells) ∧ ∀ (j : Nat) (x : Value) (t : Tab), vs[j]? = some x → ts[j]? = some t → TabAt w K x t
theorem InAt.keep {S K : Nat → Prop} {w w' : World} {base : Nat} {v : Value} {ts : List Tab} (h : InAt w base K v ts) (hf : Fr S w w') (hs : ∀ k, k < w.heap.size → K k → ¬ S k) (hr : ∀ k, v.ownBlock = some k → ¬ S k) : InAt w' base K v ts := by
  obtain ⟨vs, h1, h2, h3⟩ := h.ex
  exact ⟨vs, h1, hf.owns h2 hr, fun j x t hx ht => (h3 j x t hx ht).keep hf hs⟩
theorem InAt.later {K : Nat → Prop} {w w' : World} {base : Nat} {v : Value} {ts : List Tab} (h : InAt w base K v ts) (hf : Fr no w w') : InAt w' base K v ts := h.keep hf (fun _ _ _ q => q) (fun _ _ q => q)
theorem InAt.nil (w : World) (base : Nat) (K : Nat → Prop) : InAt w base K (.slice none 0 0) [] := ⟨[], rfl, World.ownsRow_nil _ _ 41 4, fun j x t hx => by simp at hx⟩
/-- the row's own block is no map's -/
theorem InAt.notMap {K : Nat → Prop} {w : World} {base m : Nat} {v : Value} {ts : List Tab} {al : List (ByteArray × Value)} (h : InAt w base K v ts) (hm : MapIs w m al) : v.ownBlock ≠ some m := by
  intro q
  obtain ⟨vs, h1, h2, h3⟩ := h.ex
  obtain ⟨es, ck, hb, _⟩ := hm
  rcases h2.2 with ⟨rfl, _⟩ | ⟨g, cap, cur, rfl, _, hg, _⟩
  · cases q
  · injection q with q; subst q
    rw [hg] at hb; cases hb
theorem InAt.at_ {K : Nat → Prop} {w : World} {base : Nat} {v : Value} {ts : List Tab} (h : InAt w base K v ts) {j : Nat} {t : Tab} (ht : ts[j]? = some t) :
    ∃ g cap A1 c1 A2 c2, v = .slice (some ⟨g, 0, none⟩) ts.length cap ∧ TabAt w K (.agg #[.string t.name, .slice A1 t.cols.length c1, .int .i64 t.key, .slice A2 t.idx.length c2]) t ∧
      w.cell? ⟨g, j * 4, none⟩ = some (.string t.name) ∧ w.cell? ⟨g, j * 4 + 1, none⟩ = some (.slice A1 t.cols.length c1) ∧ w.cell? ⟨g, j * 4 + 2, none⟩ = some (.int .i64 t.key) ∧ w.cell? ⟨g, j * 4 + 3, none⟩ = some (.slice A2 t.idx.length c2) ∧ ts.length ≤ cap := by
  obtain ⟨vs, h1, h2, h3⟩ := h.ex
  have hjl : j < ts.length := (List.getElem?_eq_some_iff.1 ht).1
  obtain ⟨x, hx⟩ : ∃ x, vs[j]? = some x := ⟨_, List.getElem?_eq_getElem (by omega)⟩
  have hT := h3 j x t hx ht
  obtain ⟨A1, c1, A2, c2, rfl, _⟩ := tab_form hT
  obtain ⟨g, cap, rfl, _, _, hc⟩ := owns_form h2 (by omega)
  have hall : ∀ y ∈ vs, (vcells y).length = 4 := fun y hy => by
    obtain ⟨i, hi⟩ := List.getElem?_of_mem hy
    have hil : i < vs.length := (List.getElem?_eq_some_iff.1 hi).1
    exact (tab_cells (h3 i y ts[i] hi (List.getElem?_eq_getElem (by omega)))).1
  have f := flat4_at vs j _ hall hx
  exact ⟨g, cap, A1, c1, A2, c2, rfl, hT, owns_at h2 (f 0 (by omega)), owns_at h2 (f 1 (by omega)), owns_at h2 (f 2 (by omega)), owns_at h2 (f 3 (by omega)), hc⟩
theorem InAt.own {K : Nat → Prop} {w : World} {base : Nat} {v : Value} {ts : List Tab} (h : InAt w base K v ts) : (∃ A c, v = .slice A ts.length c) ∧ ∀ k, v.ownBlock = some k → base ≤ k ∧ k < w.heap.size := by
  obtain ⟨vs, h1, h2, h3⟩ := h.ex
  exact ⟨owns_slice h2, h2.lt⟩
/-- one schema more -/
theorem InAt.snoc {K : Nat → Prop} {w w0 w1 : World} {base : Nat} {v v' x : Value} {ts : List Tab} {t : Tab} {vs : List Value} (h1 : vs.length = ts.length) (h3 : ∀ (j : Nat) (y : Value) (u : Tab), vs[j]? = some y → ts[j]? = some u → TabAt w K y u) (hx : TabAt w K x t)
    (hf : Fr no w w0) (hK : ∀ k, k < w.heap.size → K k → v.ownBlock ≠ some k) (ho : w1.ownsRow base 41 4 v' (ts.length + 1) (vs.flatMap vcells ++ vcells x)) (hg : w0.grownBy w1 v.ownBlock) : InAt w1 base K v' (ts ++ [t]) := by
  have kp : ∀ {y u}, TabAt w K y u → TabAt w1 K y u := fun {y u} q => by
    obtain ⟨vc, vi, svs, rfl, q1, q2⟩ := q.ex
    have hz : Fr (fun k => some k = v.ownBlock) w w1 := (hf.mono (fun _ _ q => q.elim)).trans (Fr.grown hg) (fun _ _ q => q)
    exact q.keep hz (fun k hk hkk z => hK k hk hkk z.symm)
  refine ⟨vs ++ [x], by simp [h1], ?_, fun j y u hy hu => ?_⟩
  · simpa using ho
  · by_cases hj : j < vs.length
    · rw [List.getElem?_append_left hj] at hy
      rw [List.getElem?_append_left (by omega)] at hu
      exact kp (h3 j y u hy hu)
    · have hj2 : j = vs.length := by
        have := (List.getElem?_eq_some_iff.1 hy).1
        simp at this; omega
      subst hj2
      rw [List.getElem?_append_right (Nat.le_refl _)] at hy
      rw [h1, List.getElem?_append_right (Nat.le_refl _)] at hu
      simp at hy hu
      subst hy hu
      exact kp hx

/-! ### The schemas that came in -/
/-- n schemas at an address that came in -/
structure TabsIn (w : World) (A : Option Addr) (n : Nat) (ts : List Tab) : Prop where
  len : ts.length = n
  ok : ∀ t ∈ ts, TabOk t
  at_ : ∀ (i : Nat) (t : Tab), ts[i]? = some t → ∃ b off A1 c1 A2 c2, A = some ⟨b, off, none⟩ ∧ b < w.heap.size ∧ TabAt w (fun k => k < w.heap.size) (.agg #[.string t.name, .slice A1 t.cols.length c1, .int .i64 t.key, .slice A2 t.idx.length c2]) t ∧
    w.cell? ⟨b, off + i * 4, none⟩ = some (.string t.name) ∧ w.cell? ⟨b, off + i * 4 + 1, none⟩ = some (.slice A1 t.cols.length c1) ∧ w.cell? ⟨b, off + i * 4 + 2, none⟩ = some (.int .i64 t.key) ∧ w.cell? ⟨b, off + i * 4 + 3, none⟩ = some (.slice A2 t.idx.length c2)

/-! ### Which are taken -/
def seenB (n : ByteArray) (l : List ByteArray) : Bool := l.any (fun x => decide (x = n))
theorem seenB_iff (n : ByteArray) (l : List ByteArray) : seenB n l = true ↔ n ∈ l := by
  simp [seenB]
def pstep (d : ByteArray) (p : List ByteArray × List Tab) (t : Tab) : List ByteArray × List Tab := (p.1 ++ [t.name], if seenB t.name p.1 = true ∨ t.name = d then p.2 else p.2 ++ [t])
def pfold (d : ByteArray) (ts : List Tab) : List ByteArray × List Tab := ts.foldl (pstep d) ([], [])
theorem pfold_snoc (d : ByteArray) (ts : List Tab) (t : Tab) : pfold d (ts ++ [t]) = pstep d (pfold d ts) t := by simp [pfold, List.foldl_append]
theorem pfold_step (d : ByteArray) (ts : List Tab) (k : Nat) (t : Tab) (h : ts[k]? = some t) : pfold d (ts.take (k + 1)) = pstep d (pfold d (ts.take k)) t := by
  rw [List.take_add_one, h]; exact pfold_snoc d _ t
theorem pfold_ok (d : ByteArray) (ts : List Tab) : ∀ k, (pfold d (ts.take k)).2.length ≤ k ∧ ((pfold d (ts.take k)).2.map Tab.name).Nodup ∧ (∀ t ∈ (pfold d (ts.take k)).2, t ∈ ts ∧ t.name ≠ d ∧ t.name ∈ (pfold d (ts.take k)).1) := by
  intro k
  induction k with
  | zero => simp [pfold]
  | succ k ih =>
    by_cases hk : k < ts.length
    · obtain ⟨t, ht⟩ : ∃ t, ts[k]? = some t := ⟨_, List.getElem?_eq_getElem hk⟩
      obtain ⟨i1, i2, i3⟩ := ih
      rw [pfold_step d ts k t ht]
      unfold pstep
      simp only
      split
      · exact ⟨by omega, i2, fun u hu => ⟨(i3 u hu).1, (i3 u hu).2.1, List.mem_append_left _ (i3 u hu).2.2⟩⟩
      · next q =>
        refine ⟨by simp; omega, ?_, fun u hu => ?_⟩
        · rw [List.map_append, List.nodup_append]
          refine ⟨i2, by simp, fun a ha b hb e => ?_⟩
          simp at hb
          subst hb
          obtain ⟨u, hu, rfl⟩ := List.mem_map.1 ha
          exact q (.inl ((seenB_iff _ _).2 (e ▸ (i3 u hu).2.2)))
        · rcases List.mem_append.1 hu with hu | hu
          · exact ⟨(i3 u hu).1, (i3 u hu).2.1, List.mem_append_left _ (i3 u hu).2.2⟩
          · simp at hu
            subst hu
            exact ⟨List.mem_of_getElem? ht, fun e => q (.inr e), by simp⟩
    · rw [List.take_of_length_le (by omega)] at ih ⊢
      exact ⟨by omega, ih.2⟩
def extraT (d : ByteArray) : Tab := ⟨d, [(⟨#[97]⟩, 2)], 1, []⟩
theorem extraT_ok {d : ByteArray} (h : d.size ≤ 140737488351232) : TabOk (extraT d) :=
  ⟨⟨h, by simp [extraT], by simp [extraT], by simp [extraT], by intro p hp; simp [extraT] at hp; subst hp; decide, by intro x hx; simp [extraT] at hx⟩, by simp [extraT], by intro x hx; simp [extraT] at hx⟩

theorem createAll_snoc (c : Cat) (l : List Tab) (t : Tab) : createAll c (l ++ [t]) = (ccreate (createAll c l) t).2 := by simp [createAll, List.foldl_append]
theorem createAll_step (c : Cat) (l : List Tab) (k : Nat) (t : Tab) (h : l[k]? = some t) : createAll c (l.take (k + 1)) = (ccreate (createAll c (l.take k)) t).2 := by
  rw [List.take_add_one, h]; exact createAll_snoc c _ t
theorem createAll_down (c : Cat) (l : List Tab) (k : Nat) (t : Tab) (h : l[k]? = some t) : createAll c (l.drop k).reverse = (ccreate (createAll c (l.drop (k + 1)).reverse) t).2 := by
  have hk := (List.getElem?_eq_some_iff.1 h).1
  have : l.drop k = t :: l.drop (k + 1) := by
    rw [List.drop_eq_getElem_cons hk]
    congr 1
    exact (List.getElem?_eq_some_iff.1 h).2
  rw [this, List.reverse_cons]
  exact createAll_snoc c _ t
/-! ### Two catalogues side by side -/
structure TwoC (W w : World) (B a1 m1 a2 m2 : Nat) (c1 c2 : Cat) : Prop where
  fr : Fr no W w
  c1 : IsC w (fun k => B ≤ k) a1 m1 c1
  c2 : IsC w (fun k => B ≤ k) a2 m2 c2
  lo : W.heap.size ≤ a1 ∧ W.heap.size ≤ m1 ∧ W.heap.size ≤ a2 ∧ W.heap.size ≤ m2
  hi : a1 < B ∧ m1 < B ∧ a2 < B ∧ m2 < B ∧ B ≤ w.heap.size
  ne : a1 ≠ m2 ∧ a2 ≠ m1 ∧ m1 ≠ m2
theorem TwoC.later {W w w' : World} {B a1 m1 a2 m2 : Nat} {c1 c2 : Cat} (h : TwoC W w B a1 m1 a2 m2 c1 c2) (hf : Fr no w w') : TwoC W w' B a1 m1 a2 m2 c1 c2 :=
  ⟨h.fr.trans hf (fun _ _ q => q), h.c1.later hf, h.c2.later hf, h.lo, ⟨h.hi.1, h.hi.2.1, h.hi.2.2.1, h.hi.2.2.2.1, Nat.le_trans h.hi.2.2.2.2 hf.size⟩, h.ne⟩
theorem TwoC.one {W w w' : World} {B a1 m1 a2 m2 : Nat} {c1 c2 c1' : Cat} (h : TwoC W w B a1 m1 a2 m2 c1 c2) (hf : Fr (fun k => k = m1) w w') (hc : IsC w' (fun k => B ≤ k) a1 m1 c1') : TwoC W w' B a1 m1 a2 m2 c1' c2 := by
  obtain ⟨_, l2, _, _⟩ := h.lo
  obtain ⟨i1, i2, i3, i4, i5⟩ := h.hi
  exact ⟨h.fr.trans hf (fun i hi q => by have q' : i = m1 := q; omega), hc, h.c2.keep hf h.ne.2.1 (fun q => h.ne.2.2 q.symm) (fun k _ q z => by have z' : k = m1 := z; omega), h.lo, ⟨i1, i2, i3, i4, Nat.le_trans i5 hf.size⟩, h.ne⟩
theorem TwoC.two {W w w' : World} {B a1 m1 a2 m2 : Nat} {c1 c2 c2' : Cat} (h : TwoC W w B a1 m1 a2 m2 c1 c2) (hf : Fr (fun k => k = m2) w w') (hc : IsC w' (fun k => B ≤ k) a2 m2 c2') : TwoC W w' B a1 m1 a2 m2 c1 c2' := by
  obtain ⟨_, _, _, l4⟩ := h.lo
  obtain ⟨i1, i2, i3, i4, i5⟩ := h.hi
  exact ⟨h.fr.trans hf (fun i hi q => by have q' : i = m2 := q; omega), h.c1.keep hf h.ne.1 h.ne.2.2 (fun k _ q z => by have z' : k = m2 := z; omega), hc, h.lo, ⟨i1, i2, i3, i4, Nat.le_trans i5 hf.size⟩, h.ne⟩
theorem IsC.rekey {K K' : Nat → Prop} {w : World} {a m : Nat} (h : IsC w K a m []) (hk : ¬ K' m) : IsC w K' a m [] := by
  obtain ⟨ml, h1, h2, h3⟩ := h.map
  have hl := h2.length
  have : ml = [] := List.eq_nil_of_length_eq_zero (by simpa [mapv] using hl)
  subst this
  exact ⟨h.blk, ⟨[], h1, h2, fun e he => by simp at he⟩, h.ne, hk, h.few, h.good⟩
theorem TwoC.made {W w1 w2 : World} (h1 : IsC w1 (fun _ => False) (W.heap.size + 1) W.heap.size []) (f1 : Fr no W w1) (h2 : IsC w2 (fun _ => False) (w1.heap.size + 1) w1.heap.size []) (f2 : Fr no w1 w2) :
    TwoC W w2 (w1.heap.size + 2) (W.heap.size + 1) W.heap.size (w1.heap.size + 1) w1.heap.size [] [] := by
  have l1 := h1.lt
  have l2 := h2.lt
  have s1 := f1.size
  exact ⟨f1.trans f2 (fun _ _ q => q), (h1.later f2).rekey (by omega), h2.rekey (by omega), ⟨by omega, by omega, by omega, by omega⟩, ⟨by omega, by omega, by omega, by omega, by omega⟩, ⟨by omega, by omega, by omega⟩⟩
end Go.Proofs.Ythmjjbgjbcnjmaa
