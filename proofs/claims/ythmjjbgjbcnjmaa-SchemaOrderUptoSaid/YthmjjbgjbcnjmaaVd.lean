import Derived.Test.YthmjjbgjbcnjmaaVa
import Derived.Test.YthmjjbgjbcnjmaaUh
namespace Go.Proofs.Ythmjjbgjbcnjmaa
open Go.ChangeShapes Go.WideShapes Go.ChangeAt Go.RowKit Go.Hop Go.Deep

/-! ### Schemas that came in, opened -/
theorem cells41' : Try.prog.cellsOf 41 = 4 := by kernel_rfl
theorem cells43' : Try.prog.cellsOf 43 = 2 := by kernel_rfl
theorem cells91' : Try.prog.cellsOf 91 = 3 := by kernel_rfl
theorem cells38' : Try.prog.cellsOf 38 = 1 := by kernel_rfl
theorem cells39' : Try.prog.cellsOf 39 = 1 := by kernel_rfl
theorem cells4' : Try.prog.cellsOf 4 = 1 := by kernel_rfl

theorem flat_get {α : Type} (f : α → List Value) (s : Nat) : ∀ (L : List α), (∀ x ∈ L, (f x).length = s) → ∀ (j : Nat) (u : Value), (L.flatMap f)[j]? = some u → ∃ i r x, L[i]? = some x ∧ r < s ∧ j = i * s + r ∧ (f x)[r]? = some u
  | [], _, j, u, h => by simp at h
  | x :: L, hl, j, u, h => by
    have h0 := hl x List.mem_cons_self
    rw [List.flatMap_cons] at h
    by_cases hj : j < s
    · rw [List.getElem?_append_left (by omega)] at h
      exact ⟨0, j, x, rfl, hj, by omega, h⟩
    · rw [List.getElem?_append_right (by omega), h0] at h
      obtain ⟨i, r, y, h1, h2, h3, h4⟩ := flat_get f s L (fun y hy => hl y (List.mem_cons_of_mem _ hy)) (j - s) u h
      exact ⟨i + 1, r, y, by simpa using h1, h2, by rw [Nat.add_mul]; omega, h4⟩
theorem flat_len {α : Type} (f : α → List Value) (s : Nat) : ∀ (L : List α), (∀ x ∈ L, (f x).length = s) → (L.flatMap f).length = L.length * s
  | [], _ => by simp
  | x :: L, hl => by
    rw [List.flatMap_cons, List.length_append, flat_len f s L (fun y hy => hl y (List.mem_cons_of_mem _ hy)), hl x List.mem_cons_self, List.length_cons, Nat.add_mul]; omega
theorem map_range {α : Type} {g : Nat → α} {n i : Nat} {x : α} (h : ((List.range n).map g)[i]? = some x) : i < n ∧ g i = x := by
  rw [List.getElem?_map] at h
  cases hr : (List.range n)[i]? with
  | none => rw [hr] at h; cases h
  | some k =>
    rw [hr] at h
    injection h with h
    obtain ⟨h1, h2⟩ := List.getElem?_eq_some_iff.1 hr
    simp at h1 h2
    exact ⟨h1, by rw [← h, ← h2]⟩
/-- a slice whose elements are read one by one -/
theorem rc_elems {α : Type} {w : World} {s : Nat} {A : Addr} {n c : Nat} (f : α → List Value) (L : List α) (hs : 0 < s) (hn : L.length = n) (hc : n ≤ c) (hl : ∀ x ∈ L, (f x).length = s ∧ ∀ u ∈ f x, u.oneCell' = true)
    (hx : ∀ i x, L[i]? = some x → w.cells? 0 (A.add (i * s)) s = some (f x)) : RcK w (fun _ => True) s (.slice (some A) n c) n (L.flatMap f) := by
  have hlen := flat_len f s L (fun x hx => (hl x hx).1)
  have key : ∀ j u, (L.flatMap f)[j]? = some u → w.cell? (A.add j) = some u := fun j u hj => by
    obtain ⟨i, r, x, h1, h2, h3, h4⟩ := flat_get f s L (fun x hx => (hl x hx).1) j u hj
    obtain ⟨_, _, h5⟩ := World.cells?_some (hx i x h1)
    have h6 := h5 r h2
    rw [add_add, h4] at h6
    rw [h3]; exact h6
  have form : 0 < n → ∃ b off, A = ⟨b, off, none⟩ ∧ b < w.heap.size := fun hpos => by
    have hp : 0 < (L.flatMap f).length := by rw [hlen]; exact Nat.mul_pos (by omega) hs
    have h := key 0 _ (List.getElem?_eq_getElem hp)
    obtain ⟨b, off, rfl⟩ := addr_of h
    rw [add_at] at h
    exact ⟨b, off, rfl, cell_lt h⟩
  refine ⟨⟨some A, c, rfl, hc, by rw [hlen, hn], fun u hu => ?_, fun j u hj => ?_⟩, fun hne k hk => ?_⟩
  · obtain ⟨x, hx, hu⟩ := List.mem_flatMap.1 hu
    exact (hl x hx).2 u hu
  · have h := key j u hj
    have hjl := (List.getElem?_eq_some_iff.1 hj).1
    rw [hlen] at hjl
    obtain ⟨b, off, rfl, _⟩ := form (by
      rcases Nat.eq_zero_or_pos n with q | q
      · rw [hn, q] at hjl; simp at hjl
      · exact q)
    exact ⟨b, off, rfl, by rw [add_at] at h; exact h⟩
  · obtain ⟨b, off, rfl, hb⟩ := form (Nat.pos_of_ne_zero hne)
    simp only [Value.ownBlock] at hk
    injection hk with hk
    subst hk
    exact ⟨hb, trivial⟩

theorem icells_zip : ∀ (L : List (Ix × Value)), icells (L.map Prod.fst) (L.map Prod.snd) = L.flatMap (fun z : Ix × Value => [Value.string z.1.name, z.2, .bool z.1.uniq])
  | [] => rfl
  | z :: L => by
    have ih := icells_zip L
    simp only [List.map_cons, icells, ih, List.flatMap_cons, List.cons_append, List.nil_append]
section
variable {H : Type} {enc : TypeId × Value → H} {w : World}
set_option maxRecDepth 100000 in
theorem open_col {fuel : Nat} {cs : List Value} {x : DataW H × List MemPlace} (h : DataW.trod enc Try.prog w 0 (fun _ => true) true fuel 43 cs = some x) (hb : Rows.uptoBulk x.1 ≤ 1048576) :
    ∃ c : Col, cs = [.string c.1, .int .i64 c.2] ∧ c.1.size ≤ 1048576 ∧ -9223372036854775808 ≤ c.2 ∧ c.2 ≤ 9223372036854775807 := by
  obtain ⟨xs, n, _, rfl, hcl, hxl, hf⟩ := DataW.trod_struct Try.underlying43 h
  rw [cells43'] at hcl
  match cs, hcl, xs, hxl with
  | [c0, c1], _, [x0, x1], _ =>
    have g0 := hf 0 _ rfl
    have g1 := hf 1 _ rfl
    simp [cells3', cells9'] at g0 g1
    obtain ⟨s1, e0, rfl, w0⟩ := DataW.trod_string Try.underlying9 g0
    obtain ⟨k, e1, rfl, w1⟩ := DataW.trod_int Try.underlying3 g1
    simp at e0 e1
    subst e0 e1
    simp only [List.map_cons, List.map_nil, Rows.uptoBulk, Rows.uptoBulkAll, Array.length_toList] at hb
    have b1 : s1.data.size = s1.size := rfl
    exact ⟨(s1, k), rfl, by simp only; omega, bounds_i64 w1⟩
set_option maxRecDepth 100000 in
theorem open_cols {fuel : Nat} {v : Value} {x : DataW H × List MemPlace} (h : DataW.trod enc Try.prog w 0 (fun _ => true) true fuel 38 [v] = some x) (hb : Rows.uptoBulk x.1 ≤ 1048576) :
    ∃ l : List Col, RcK w (fun _ => True) 2 v l.length (ccells l) ∧ l.length ≤ 1048576 ∧ ∀ c ∈ l, c.1.size ≤ 1048576 ∧ -9223372036854775808 ≤ c.2 ∧ c.2 ≤ 9223372036854775807 := by
  rcases open_slice Try.underlying38 h with ⟨hc, rfl⟩ | ⟨a, len, cap, m, q, D, Pl, hc, _, hle, hmx, hm, hx, hel⟩
  · simp at hc
    subst hc
    exact ⟨[], ⟨rc_empty w 2 none 0, fun q => absurd rfl q⟩, by simp, by simp⟩
  · simp at hc
    subst hc
    simp at hm
    subst hm
    subst hx
    have hbD : ∀ i, i < len → Rows.uptoBulk (D i) ≤ 1048576 := fun i hi => by
      have := part_le (show D i ∈ (List.range len).map D from List.mem_map.2 ⟨i, List.mem_range.2 hi, rfl⟩)
      simp only [Rows.uptoBulk] at hb
      omega
    have hlen : len ≤ 1048576 := by
      have := length_le ((List.range len).map D)
      simp only [List.length_map, List.length_range, Rows.uptoBulk] at this hb
      omega
    obtain ⟨g, hg⟩ := choose_lt (α := Col) (p := fun i c => w.cells? 0 (a.add (i * 2)) 2 = some [.string c.1, .int .i64 c.2] ∧ c.1.size ≤ 1048576 ∧ -9223372036854775808 ≤ c.2 ∧ c.2 ≤ 9223372036854775807) (n := len) (fun i hi => by
      obtain ⟨cs', h1, h2⟩ := hel i (by omega)
      rw [cells43'] at h1
      obtain ⟨c, rfl, hcb⟩ := open_col h2 (hbD i hi)
      exact ⟨c, h1, hcb⟩)
    refine ⟨(List.range len).map g, ?_, by simpa using hlen, fun c hc => ?_⟩
    · have := rc_elems (w := w) (s := 2) (A := a) (n := len) (c := m) (fun c : Col => [Value.string c.1, .int .i64 c.2]) ((List.range len).map g) (by decide) (by simp) hle (fun c _ => ⟨rfl, by simp [Value.oneCell']⟩) (fun i c hi => by
        obtain ⟨hil, rfl⟩ := map_range hi
        exact (hg i hil).1)
      simpa [ccells] using this
    · obtain ⟨i, hi, rfl⟩ := List.mem_map.1 hc
      exact (hg i (List.mem_range.1 hi)).2

set_option maxRecDepth 100000 in
theorem open_ix {fuel : Nat} {cs : List Value} {x : DataW H × List MemPlace} (h : DataW.trod enc Try.prog w 0 (fun _ => true) true fuel 91 cs = some x) (hb : Rows.uptoBulk x.1 ≤ 1048576) :
    ∃ (z : Ix × Value), cs = [.string z.1.name, z.2, .bool z.1.uniq] ∧ RcK w (fun _ => True) 1 z.2 z.1.cols.length (z.1.cols.map encI) ∧ z.1.name.size ≤ 1048576 ∧ z.1.cols.length ≤ 1048576 ∧ ∀ n ∈ z.1.cols, -9223372036854775808 ≤ n ∧ n ≤ 9223372036854775807 := by
  obtain ⟨xs, n, _, rfl, hcl, hxl, hf⟩ := DataW.trod_struct Try.underlying91 h
  rw [cells91'] at hcl
  match cs, hcl, xs, hxl with
  | [c0, c1, c2], _, [x0, x1, x2], _ =>
    have g0 := hf 0 _ rfl
    have g1 := hf 1 _ rfl
    have g2 := hf 2 _ rfl
    simp [cells29', cells9', cells4'] at g0 g1 g2
    obtain ⟨s1, e0, rfl, w0⟩ := DataW.trod_string Try.underlying9 g0
    obtain ⟨ds, r1, r2, r3, r4⟩ := open_draws g1
    obtain ⟨u, e2, rfl⟩ := DataW.trod_bool Try.underlying4 g2
    simp at e0 e2
    subst e0 e2
    simp only [List.map_cons, List.map_nil, Rows.uptoBulk, Rows.uptoBulkAll, Array.length_toList] at hb
    have b1 : s1.data.size = s1.size := rfl
    refine ⟨(⟨s1, ds, u⟩, c1), rfl, ⟨Rc.of_rd r1, fun hn k hk => ⟨r4 (fun q => hn (by simp [q])) k hk, trivial⟩⟩, by simp only; omega, by simp only; omega, r3⟩

set_option maxRecDepth 100000 in
theorem open_idxs {fuel : Nat} {v : Value} {x : DataW H × List MemPlace} (h : DataW.trod enc Try.prog w 0 (fun _ => true) true fuel 39 [v] = some x) (hb : Rows.uptoBulk x.1 ≤ 1048576) :
    ∃ (l : List Ix) (svs : List Value), IdxAt w (fun _ => True) v l svs ∧ l.length ≤ 1048576 ∧ ∀ z ∈ l, z.name.size ≤ 1048576 ∧ z.cols.length ≤ 1048576 ∧ ∀ n ∈ z.cols, -9223372036854775808 ≤ n ∧ n ≤ 9223372036854775807 := by
  rcases open_slice Try.underlying39 h with ⟨hc, rfl⟩ | ⟨a, len, cap, m, q, D, Pl, hc, _, hle, hmx, hm, hx, hel⟩
  · simp at hc
    subst hc
    exact ⟨[], [], ⟨rfl, ⟨rc_empty w 3 none 0, fun q => absurd rfl q⟩, fun j z u hj => by simp at hj⟩, by simp, by simp⟩
  · simp at hc
    subst hc
    simp at hm
    subst hm
    subst hx
    have hbD : ∀ i, i < len → Rows.uptoBulk (D i) ≤ 1048576 := fun i hi => by
      have := part_le (show D i ∈ (List.range len).map D from List.mem_map.2 ⟨i, List.mem_range.2 hi, rfl⟩)
      simp only [Rows.uptoBulk] at hb
      omega
    have hlen : len ≤ 1048576 := by
      have := length_le ((List.range len).map D)
      simp only [List.length_map, List.length_range, Rows.uptoBulk] at this hb
      omega
    have : Inhabited Ix := ⟨⟨⟨#[]⟩, [], false⟩⟩
    have : Inhabited Value := ⟨.bool false⟩
    obtain ⟨g, hg⟩ := choose_lt (α := Ix × Value) (p := fun i z => w.cells? 0 (a.add (i * 3)) 3 = some [.string z.1.name, z.2, .bool z.1.uniq] ∧ RcK w (fun _ => True) 1 z.2 z.1.cols.length (z.1.cols.map encI) ∧ z.1.name.size ≤ 1048576 ∧ z.1.cols.length ≤ 1048576 ∧ ∀ n ∈ z.1.cols, -9223372036854775808 ≤ n ∧ n ≤ 9223372036854775807) (n := len) (fun i hi => by
      obtain ⟨cs', h1, h2⟩ := hel i (by omega)
      rw [cells91'] at h1
      obtain ⟨z, rfl, hcb⟩ := open_ix h2 (hbD i hi)
      exact ⟨z, h1, hcb⟩)
    refine ⟨((List.range len).map g).map Prod.fst, ((List.range len).map g).map Prod.snd, ⟨by simp, ?_, fun j z u hj hu => ?_⟩, by simpa using hlen, fun z hz => ?_⟩
    · have := rc_elems (w := w) (s := 3) (A := a) (n := len) (c := m) (fun z : Ix × Value => [Value.string z.1.name, z.2, .bool z.1.uniq]) ((List.range len).map g) (by decide) (by simp) hle (fun z hz => ⟨rfl, fun u hu => by
        obtain ⟨i, hi, rfl⟩ := List.mem_map.1 hz
        obtain ⟨A', c', e, _⟩ := (hg i (List.mem_range.1 hi)).2.1.rc.form
        simp only [List.mem_cons, List.not_mem_nil, or_false] at hu
        rcases hu with rfl | rfl | rfl
        · rfl
        · rw [e]; rfl
        · rfl⟩) (fun i c hi => by
        obtain ⟨hil, rfl⟩ := map_range hi
        exact (hg i hil).1)
      have e : icells (((List.range len).map g).map Prod.fst) (((List.range len).map g).map Prod.snd) = ((List.range len).map g).flatMap (fun z : Ix × Value => [Value.string z.1.name, z.2, .bool z.1.uniq]) := icells_zip _
      rw [e]
      simpa using this
    · rw [List.getElem?_map] at hj hu
      cases hr : ((List.range len).map g)[j]? with
      | none => rw [hr] at hj; cases hj
      | some p =>
        rw [hr] at hj hu
        injection hj with hj
        injection hu with hu
        subst hj hu
        obtain ⟨hil, rfl⟩ := map_range hr
        exact (hg j hil).2.1
    · obtain ⟨p, hp, rfl⟩ := List.mem_map.1 hz
      obtain ⟨i, hi, rfl⟩ := List.mem_map.1 hp
      exact (hg i (List.mem_range.1 hi)).2.2

set_option maxRecDepth 100000 in
theorem open_tab {fuel : Nat} {cs : List Value} {x : DataW H × List MemPlace} (h : DataW.trod enc Try.prog w 0 (fun _ => true) true fuel 41 cs = some x) (hb : Rows.uptoBulk x.1 ≤ 1048576) :
    ∃ t : Tab, ∃ A1 c1 A2 c2, cs = [.string t.name, .slice A1 t.cols.length c1, .int .i64 t.key, .slice A2 t.idx.length c2] ∧ TabAt w (fun k => k < w.heap.size) (.agg #[.string t.name, .slice A1 t.cols.length c1, .int .i64 t.key, .slice A2 t.idx.length c2]) t ∧ TabOk t := by
  obtain ⟨xs, n, _, rfl, hcl, hxl, hf⟩ := DataW.trod_struct Try.underlying41 h
  rw [cells41'] at hcl
  match cs, hcl, xs, hxl with
  | [c0, c1, c2, c3], _, [x0, x1, x2, x3], _ =>
    have g0 := hf 0 _ rfl
    have g1 := hf 1 _ rfl
    have g2 := hf 2 _ rfl
    have g3 := hf 3 _ rfl
    simp [cells38', cells39', cells9', cells3'] at g0 g1 g2 g3
    obtain ⟨s1, e0, rfl, w0⟩ := DataW.trod_string Try.underlying9 g0
    obtain ⟨k, e2, rfl, w2⟩ := DataW.trod_int Try.underlying3 g2
    simp at e0 e2
    subst e0 e2
    simp only [List.map_cons, List.map_nil, Rows.uptoBulk, Rows.uptoBulkAll, Array.length_toList] at hb
    have b1 : s1.data.size = s1.size := rfl
    have k2 := bounds_i64 w2
    obtain ⟨cl, r1, r2, r3⟩ := open_cols g1 (by omega)
    obtain ⟨il, svs, q1, q2, q3⟩ := open_idxs g3 (by omega)
    obtain ⟨A1, c1', rfl, _⟩ := r1.rc.form
    obtain ⟨A2, c2', rfl, _⟩ := q1.row.rc.form
    have hT : TabAt w (fun _ => True) (.agg #[.string s1, .slice A1 cl.length c1', .int .i64 k, .slice A2 il.length c2']) ⟨s1, cl, k, il⟩ := ⟨_, _, svs, rfl, r1, q1⟩
    refine ⟨⟨s1, cl, k, il⟩, A1, c1', A2, c2', rfl, hT.mono (fun k hk _ => hk), ⟨⟨by simp only; omega, by simp only; omega, k2, by simp only; omega, fun p hp => ⟨by have := (r3 p hp).1; omega, (r3 p hp).2⟩, fun z hz => ⟨by have := (q3 z hz).1; omega, by have := (q3 z hz).2.1; omega, (q3 z hz).2.2⟩⟩, ⟨by simp only; omega, by simp only; omega⟩, fun z hz => by have := (q3 z hz).2.1; omega⟩⟩

set_option maxRecDepth 100000 in
/-- the schemas that came in, opened -/
theorem open_tabs {v : Value} {d : DataW H} {ps : List MemPlace} (hv : ∃ A n c, v = .slice A n c) (h : DataW.Trod enc Try.prog w 0 (fun _ => true) true 34 v d ps) (hb : Rows.uptoBulk d ≤ 1048576) :
    ∃ A n c ts, v = .slice A n c ∧ n ≤ c ∧ n ≤ 1048576 ∧ TabsIn w A n ts := by
  obtain ⟨A, n, c, rfl⟩ := hv
  obtain ⟨fuel, hf⟩ := h
  rcases open_slice Try.underlying34 hf with ⟨hc, hx⟩ | ⟨a, len, cap, m, q, D, Pl, hc, _, hle, hmx, hm, hx, hel⟩
  · simp [Value.cells] at hc
    obtain ⟨rfl, rfl, rfl⟩ := hc
    exact ⟨none, 0, 0, [], rfl, Nat.le_refl _, by omega, rfl, by simp, fun i t hi => by simp at hi⟩
  · simp [Value.cells] at hc
    obtain ⟨rfl, rfl, rfl⟩ := hc
    simp at hm
    subst hm
    injection hx with hx1 hx2
    subst hx1
    have hbD : ∀ i, i < n → Rows.uptoBulk (D i) ≤ 1048576 := fun i hi => by
      have := part_le (show D i ∈ (List.range n).map D from List.mem_map.2 ⟨i, List.mem_range.2 hi, rfl⟩)
      simp only [Rows.uptoBulk] at hb
      omega
    have hlen : n ≤ 1048576 := by
      have := length_le ((List.range n).map D)
      simp only [List.length_map, List.length_range, Rows.uptoBulk] at this hb
      omega
    have : Inhabited Tab := ⟨⟨⟨#[]⟩, [], 0, []⟩⟩
    obtain ⟨g, hg⟩ := choose_lt (α := Tab) (p := fun i t => ∃ A1 c1 A2 c2, w.cells? 0 (a.add (i * 4)) 4 = some [.string t.name, .slice A1 t.cols.length c1, .int .i64 t.key, .slice A2 t.idx.length c2] ∧ TabAt w (fun k => k < w.heap.size) (.agg #[.string t.name, .slice A1 t.cols.length c1, .int .i64 t.key, .slice A2 t.idx.length c2]) t ∧ TabOk t) (n := n) (fun i hi => by
      obtain ⟨cs', h1, h2⟩ := hel i (by omega)
      rw [cells41'] at h1
      obtain ⟨t, A1, c1, A2, c2, rfl, h3⟩ := open_tab h2 (hbD i hi)
      exact ⟨t, A1, c1, A2, c2, h1, h3⟩)
    refine ⟨some a, n, _, (List.range n).map g, rfl, hle, hlen, by simp, fun t ht => ?_, fun i t hi => ?_⟩
    · obtain ⟨i, hi, rfl⟩ := List.mem_map.1 ht
      obtain ⟨_, _, _, _, _, _, h3⟩ := hg i (List.mem_range.1 hi)
      exact h3
    · obtain ⟨hil, rfl⟩ := map_range hi
      obtain ⟨A1, c1, A2, c2, h1, h2, _⟩ := hg i hil
      obtain ⟨b, off, rfl⟩ : ∃ b off, a = ⟨b, off, none⟩ := by
        obtain ⟨A1, c1, A2, c2, h1, _⟩ := hg 0 (by omega)
        obtain ⟨_, _, hcell⟩ := World.cells?_some h1
        have z := hcell 0 (by omega)
        rw [add_add] at z
        simp only [Nat.zero_mul, Nat.zero_add] at z
        exact addr_of z
      obtain ⟨_, _, hcell⟩ := World.cells?_some h1
      have k0 := hcell 0 (by omega)
      have k1 := hcell 1 (by omega)
      have k2 := hcell 2 (by omega)
      have k3 := hcell 3 (by omega)
      rw [add_add, add_at] at k0 k1 k2 k3
      exact ⟨b, off, A1, c1, A2, c2, rfl, cell_lt k0, h2, k0, by rw [Nat.add_assoc]; exact k1, by rw [Nat.add_assoc]; exact k2, by rw [Nat.add_assoc]; exact k3⟩
end
end Go.Proofs.Ythmjjbgjbcnjmaa
