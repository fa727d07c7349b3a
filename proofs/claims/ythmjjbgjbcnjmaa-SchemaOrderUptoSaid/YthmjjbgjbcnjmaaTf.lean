import Derived.Test.YthmjjbgjbcnjmaaTe
import Derived.Deep.RegionHeld3
import Derived.Deep.Onto
import Derived.Deep.DrawnRows
namespace Go.Proofs.Ythmjjbgjbcnjmaa
open Go.RowKit Go.Hop
attribute [local go_sem ↓] Go.wp_at_zero Go.wp_at_succ

theorem icells_len : ∀ (l : List Ix) (svs : List Value), svs.length = l.length → (icells l svs).length = l.length * 3
  | [], _, _ => rfl
  | _ :: _, [], h => by simp at h
  | x :: xs, v :: vs, h => by
    have := icells_len xs vs (by simpa using h)
    simp only [icells, List.length_cons, this]; omega
theorem icells_set : ∀ (l : List Ix) (svs : List Value) (k : Nat) (u : Value), k < l.length → svs.length = l.length → (icells l svs).set (k * 3 + 1) u = icells l (svs.set k u)
  | [], _, _, _, h, _ => by simp at h
  | _ :: _, [], _, _, _, h => by simp at h
  | x :: xs, v :: vs, 0, u, _, _ => rfl
  | x :: xs, v :: vs, k + 1, u, h, h2 => by
    have ih := icells_set xs vs k u (by simpa using h) (by simpa using h2)
    have e : icells (x :: xs) (v :: vs) = .string x.name :: v :: .bool x.uniq :: icells xs vs := rfl
    rw [e, show (k + 1) * 3 + 1 = k * 3 + 1 + 3 by omega]
    simp only [List.set_cons_succ, ih]
    rfl
theorem owns_at {w : World} {base size n cap g : Nat} {e : TypeId} {xs : List Value} (h : w.ownsRow base e size (.slice (some ⟨g, 0, none⟩) n cap) n xs) {j : Nat} {u : Value} (hj : xs[j]? = some u) : w.cell? ⟨g, j, none⟩ = some u := by
  have := h.cells (g := g) rfl j u hj
  rwa [add_at, Nat.zero_add] at this
theorem RcK.of_owns {w : World} {base size n : Nat} {e : TypeId} {v : Value} {xs : List Value} (h : w.ownsRow base e size v n xs) (h1 : ∀ u ∈ xs, u.oneCell' = true) : RcK w (fun k => base ≤ k) size v n xs :=
  ⟨Rc.of_owns h h1, fun _ k hk => ⟨(h.lt k hk).2, (h.lt k hk).1⟩⟩

theorem ccells_one (l : List Col) : ∀ u ∈ ccells l, u.oneCell' = true := by
  intro u hu
  obtain ⟨p, _, hp⟩ := List.mem_flatMap.1 hu
  simp only [List.mem_cons, List.not_mem_nil, or_false] at hp
  rcases hp with rfl | rfl <;> rfl
/-- between two rounds of own's loop -/
structure OwnR (w : World) (K : Nat → Prop) (t : Tab) (svs : List Value) (p g ci : Nat) (vc : Value) (k : Nat) (svk : List Value) (wr : World) : Prop where
  fr : Fr no w wr
  res : wr.heap[p + 1]? = some (.cells #[.string ⟨#[]⟩, .slice none 0 0, .int .i64 0, .slice none 0 0] 41 (0, 0))
  box : wr.heap[p]? = some (.cells #[.string t.name, vc, .int .i64 t.key, .slice (some ⟨g, 0, none⟩) t.idx.length ci] 41 (0, 0))
  cols : RcK wr (fun b => w.heap.size ≤ b ∧ b ≠ g ∧ b ≠ p + 1) 2 vc t.cols.length (ccells t.cols)
  row : wr.ownsRow w.heap.size 91 3 (.slice (some ⟨g, 0, none⟩) t.idx.length ci) t.idx.length (icells t.idx svk)
  len : svk.length = t.idx.length
  pg : p ≠ g
  pg1 : p + 1 ≠ g
  pw : w.heap.size ≤ p
  new : ∀ (j : Nat) (x : Ix) (u : Value), j < k → t.idx[j]? = some x → svk[j]? = some u → RcK wr (fun b => w.heap.size ≤ b ∧ b ≠ g ∧ b ≠ p + 1) 1 u x.cols.length (x.cols.map encI)
  old : ∀ j, k ≤ j → svk[j]? = svs[j]?

theorem OwnR.step {w : World} {K : Nat → Prop} {t : Tab} {svs : List Value} {p g ci : Nat} {vc : Value} {k : Nat} {svk : List Value} {wr w1 w2 : World} {x : Ix} {r : Value} (h : OwnR w K t svs p g ci vc k svk wr) (hx : t.idx[k]? = some x)
    (h1 : Fr no wr w1) (ho : w1.ownsRow wr.heap.size 3 1 r x.cols.length (x.cols.map encI)) (h2 : w2 = w1.setCell ⟨g, k * 3 + 1, none⟩ r) : OwnR w K t svs p g ci vc (k + 1) (svk.set k r) w2 := by
  subst h2
  have hk : k < t.idx.length := (List.getElem?_eq_some_iff.1 hx).1
  have hg : w.heap.size ≤ g ∧ g < wr.heap.size := h.row.lt g rfl
  have hf2 : Fr (fun b => b = g) w1 (w1.setCell ⟨g, k * 3 + 1, none⟩ r) := (Fr.refl _ _).setCell _ _ (fun _ => rfl)
  have hf1 := h1.size
  have row1 := h1.owns h.row (fun _ _ q => q)
  refine ⟨(h.fr.trans h1 (fun _ _ q => q)).trans hf2 (fun i hi q => absurd hi (by omega)), hf2.keep (h1.keep h.res id) h.pg1, hf2.keep (h1.keep h.box id) h.pg, ?_, ?_, by simpa using h.len, h.pg, h.pg1, h.pw, ?_, ?_⟩
  · exact (h.cols.keep h1 (fun _ _ _ q => q)).keep hf2 (fun b _ q => q.2.1)
  · have := owns_set row1 (k * 3 + 1) r
    rwa [icells_set _ _ _ _ hk h.len] at this
  · intro j y u hj hy hu
    by_cases hjk : j = k
    · subst hjk
      rw [hx] at hy; injection hy with hy; subst hy
      rw [List.getElem?_set_self (by rw [h.len]; exact hk)] at hu
      injection hu with hu; subst hu
      have q0 := RcK.of_owns ho (by simp [encI, Value.oneCell'])
      refine (q0.mono (K' := fun b => w.heap.size ≤ b ∧ b ≠ g ∧ b ≠ p + 1) (fun b _ q => ⟨by have := h.fr.size; omega, by omega, by have := heap_lt h.res; omega⟩)).keep hf2 (fun b _ q => q.2.1)
    · rw [List.getElem?_set_ne (by omega)] at hu
      exact ((h.new j y u (by omega) hy hu).keep h1 (fun _ _ _ q => q)).keep hf2 (fun b _ q => q.2.1)
  · intro j hj
    rw [List.getElem?_set_ne (by omega)]
    exact h.old j (by omega)

theorem fr_set4 (w : World) (b : Nat) (u0 u1 u2 u3 : Value) : Fr (fun k => k = b) w ((((w.setCell ⟨b, 0, none⟩ u0).setCell ⟨b, 1, none⟩ u1).setCell ⟨b, 2, none⟩ u2).setCell ⟨b, 3, none⟩ u3) := by
  have h0 := (Fr.refl (fun k => k = b) w).setCell ⟨b, 0, none⟩ u0 (fun _ => rfl)
  have h1 := h0.setCell ⟨b, 1, none⟩ u1 (fun _ => rfl)
  have h2 := h1.setCell ⟨b, 2, none⟩ u2 (fun _ => rfl)
  exact h2.setCell ⟨b, 3, none⟩ u3 (fun _ => rfl)
theorem OwnR.done {w : World} {K : Nat → Prop} {t : Tab} {svs : List Value} {p g ci : Nat} {vc : Value} {svk : List Value} {wr w' : World} (h : OwnR w K t svs p g ci vc t.idx.length svk wr) (hf : Fr (fun b => b = p + 1) wr w') :
    TabAt w' (fun k => w.heap.size ≤ k) (.agg #[.string t.name, vc, .int .i64 t.key, .slice (some ⟨g, 0, none⟩) t.idx.length ci]) t ∧ Fr no w w' := by
  have hone : ∀ u ∈ icells t.idx svk, u.oneCell' = true := by
    intro u hu
    obtain ⟨j, hj⟩ := List.getElem?_of_mem hu
    have hjl : j < t.idx.length * 3 := by have := (List.getElem?_eq_some_iff.1 hj).1; rwa [icells_len _ _ h.len] at this
    obtain ⟨x, hx⟩ : ∃ x, t.idx[j / 3]? = some x := ⟨_, List.getElem?_eq_getElem (by omega)⟩
    obtain ⟨v, hv⟩ : ∃ v, svk[j / 3]? = some v := ⟨_, List.getElem?_eq_getElem (by rw [h.len]; omega)⟩
    obtain ⟨q1, q2, q3⟩ := icells_at t.idx svk (j / 3) x v hx hv
    rcases (by omega : j = j / 3 * 3 ∨ j = j / 3 * 3 + 1 ∨ j = j / 3 * 3 + 2) with e | e | e
    · rw [e, q1] at hj; injection hj with hj; subst hj; rfl
    · rw [e, q2] at hj; injection hj with hj; subst hj
      obtain ⟨A, c, rfl, _⟩ := (h.new (j / 3) x v (by omega) hx hv).rc.form
      rfl
    · rw [e, q3] at hj; injection hj with hj; subst hj; rfl
  refine ⟨⟨vc, _, svk, rfl, (h.cols.keep hf (fun b _ q => q.2.2)).mono (fun b _ q => q.1), h.len, ?_, fun j x u hx hu => ?_⟩, h.fr.trans hf (fun i hi q => absurd hi (by have := h.pw; omega))⟩
  · exact RcK.of_owns (hf.owns h.row (fun k hk q => h.pg1 (by obtain rfl : g = k := Option.some.inj hk; exact q.symm))) hone
  · exact ((h.new j x u (List.getElem?_eq_some_iff.1 hx).1 hx hu).keep hf (fun b _ q => q.2.2)).mono (fun b _ q => q.1)

set_option maxHeartbeats 1500000 in
set_option maxRecDepth 100000 in
theorem own_any (K : Nat → Prop) (val : Value) (t : Tab) (w : World) (h : TabAt w K val t) (hf : TabFit t) (hlen : t.cols.length ≤ 2199023255552 ∧ t.idx.length ≤ 2199023255552) (hxl : ∀ x ∈ t.idx, x.cols.length ≤ 2199023255552) :
    Calls Try.prog 55 #[val] w fun e w' => ∃ r, e = .returned r ∧ TabAt w' (fun k => w.heap.size ≤ k) r t ∧ Fr no w w' := by
  obtain ⟨vc, vi, svs, rfl, hc, hi⟩ := h.ex
  have HC := Lib.hid hc
  have HI := Lib.hid hi
  have HF := Lib.hid hf
  obtain ⟨Ac, cc, rfl, hcc⟩ := hc.rc.form
  obtain ⟨Ai, ci, rfl, hci⟩ := hi.row.rc.form
  have hl1 := hlen.1
  have hl2 := hlen.2
  clear h hc hi hf hlen
  go_enter Try.func55, Try.ntmps55
  go_wp2_with (first | (go_at_call 84; go_loud (refine (clone84_any _ _ _ _ (HC.out.rc.keep (((Fr.refl no w).alloc _).alloc _) (fun _ _ z => z)) hl1).mono ?_; rintro e w1 ⟨r1, rfl, ho1, hf1⟩; obtain ⟨A1, c1, rfl⟩ := owns_slice ho1; have HO1 := Lib.hid ho1; have HF1 := Lib.hid hf1; have hb1 := hf1.keep ((Below.heap_alloc (w.alloc _) _ w.heap.size (by simp)).trans (heap_alloc_at w _)) id; obtain ⟨x0, x1, x2, x3, x4⟩ := cells4 hb1; have x5 := free_at hb1 1; have HB1 := Lib.hid hb1; clear ho1 hf1 hb1)) | (go_at_call 85; go_loud (refine (clone85_any _ _ _ _ (HI.out.row.rc.keep (((((Fr.refl no w).alloc _).alloc _).trans HF1.out (fun _ _ z => z)).setCell _ _ (fun q => absurd q (by simp))) (fun _ _ z => z)) hl2).mono ?_; rintro e w2 ⟨r2, rfl, ho2, hf2⟩; obtain ⟨A2, c2, rfl⟩ := owns_slice ho2; have HO2 := Lib.hid ho2; have HF2 := Lib.hid hf2; have hb2 := hf2.keep (heap_setCell_at HB1.out 1 (.slice A1 t.cols.length c1)) id; obtain ⟨y0, y1, y2, y3, y4⟩ := cells4 hb2; have y5 := free_at hb2 3; have HB2 := Lib.hid hb2; clear ho2 hf2 hb2 x0 x1 x2 x3 x5)) | fail)
  have hfr2 : Fr no w (w2.setCell ⟨w.heap.size, 3, none⟩ (.slice A2 t.idx.length c2)) := ((((((Fr.refl no w).alloc _).alloc _).trans HF1.out (fun _ _ z => z)).setCell _ _ (fun q => absurd q (by simp))).trans HF2.out (fun _ _ z => z)).setCell _ _ (fun q => absurd q (by simp))
  have hbox := heap_setCell_at HB2.out 3 (.slice A2 t.idx.length c2)
  have hres : (w2.setCell ⟨w.heap.size, 3, none⟩ (.slice A2 t.idx.length c2)).heap[w.heap.size + 1]? = some (.cells #[.string ⟨#[]⟩, .slice none 0 0, .int .i64 0, .slice none 0 0] 41 (0, 0)) := by
    rw [Below.heap_setCell _ _ _ _ (by simp)]
    refine HF2.out.keep ?_ id
    rw [Below.heap_setCell _ _ _ _ (by simp)]
    refine HF1.out.keep ?_ id
    simpa using heap_alloc_at (w.alloc (.cells #[.string t.name, .slice Ac t.cols.length cc, .int .i64 t.key, .slice Ai t.idx.length ci] 41)) (.cells #[.string ⟨#[]⟩, .slice none 0 0, .int .i64 0, .slice none 0 0] 41)
  have hcols : RcK w1 (fun k => w.heap.size ≤ k ∧ k < w1.heap.size ∧ k ≠ w.heap.size ∧ k ≠ w.heap.size + 1) 2 (.slice A1 t.cols.length c1) t.cols.length (ccells t.cols) :=
    (RcK.of_owns HO1.out (ccells_one _)).mono (fun b hb q => ⟨by simp at q; omega, hb, by simp at q; omega, by simp at q; omega⟩)
  have hs1 : w1.heap.size ≤ w2.heap.size := by have := HF2.out.size; simpa using this
  have hcols2 : RcK (w2.setCell ⟨w.heap.size, 3, none⟩ (.slice A2 t.idx.length c2)) (fun k => w.heap.size ≤ k ∧ k < w1.heap.size ∧ k ≠ w.heap.size ∧ k ≠ w.heap.size + 1) 2 (.slice A1 t.cols.length c1) t.cols.length (ccells t.cols) :=
    ((hcols.keep ((Fr.refl (fun b => b = w.heap.size) w1).setCell _ _ (fun _ => rfl)) (fun b _ q => q.2.2.1)).keep HF2.out (fun _ _ _ z => z)).keep ((Fr.refl (fun b => b = w.heap.size) w2).setCell _ _ (fun _ => rfl)) (fun b _ q => q.2.2.1)
  have hrow : (w2.setCell ⟨w.heap.size, 3, none⟩ (.slice A2 t.idx.length c2)).ownsRow w1.heap.size 91 3 (.slice A2 t.idx.length c2) t.idx.length (icells t.idx svs) :=
    ((Fr.refl (fun b => b = w.heap.size) w2).setCell _ _ (fun _ => rfl)).owns (HO2.out.mono (by simp)) (fun k hk q => by have := (HO2.out.lt k hk).1; simp at this; omega)
  have HFR2 := Lib.hid hfr2
  have HRES := Lib.hid hres
  have HROW := Lib.hid hrow
  have HCOLS := Lib.hid hcols2
  have hbox' : (w2.setCell ⟨w.heap.size, 3, none⟩ (.slice A2 t.idx.length c2)).heap[w.heap.size]? = some (.cells #[.string t.name, .slice A1 t.cols.length c1, .int .i64 t.key, .slice A2 t.idx.length c2] 41 (0, 0)) := by simpa using hbox
  have HBOX := Lib.hid hbox'
  have hw1 : w.heap.size + 1 < w1.heap.size := by have := HF1.out.size; simp at this; omega
  have hw2 : w1.heap.size ≤ (w2.setCell ⟨w.heap.size, 3, none⟩ (.slice A2 t.idx.length c2)).heap.size := by simpa using hs1
  clear hfr2 hbox hbox' hres hcols hcols2 hrow HO1 HF1 HB1 HO2 HF2 HB2 y0 y1 y2 y3 y4 y5 x4 hs1
  generalize (w2.setCell ⟨w.heap.size, 3, none⟩ (.slice A2 t.idx.length c2)) = w3 at *
  by_cases hz : t.idx.length = 0
  · have HX := Lib.hid (show t.idx = [] from List.eq_nil_of_length_eq_zero hz)
    obtain ⟨z0, z1, z2, z3, z4⟩ := cells4 HBOX.out
    obtain ⟨r0, r1, r2, r3, r4⟩ := cells4 HRES.out
    have rf0 := free_at HRES.out 0
    have rf1 := free_at HRES.out 1
    have rf2 := free_at HRES.out 2
    have rf3 := free_at HRES.out 3
    have t1 : decide ((0 : Int) < (t.idx.length : Int)) = false := by rw [hz]; rfl
    have t2 : decide (0 < t.idx.length) = false := by rw [hz]; rfl
    have Hz := Lib.hid hz
    clear hz
    go_loopw [15] (fun u15 wr => u15 = .int .i64 0 ∧ wr = w3) (fun _ _ => 0)
    case atStart => exact ⟨rfl, rfl⟩
    case round =>
      obtain ⟨rfl, rfl⟩ := hrel
      go_wp2_with fail
      have hfin := fr_set4 wr (w.heap.size + 1) (.string t.name) (.slice A1 t.cols.length c1) (.int .i64 t.key) (.slice A2 t.idx.length c2)
      have hh := heap_setCell_at (heap_setCell_at (heap_setCell_at (heap_setCell_at HRES.out 0 (.string t.name)) 1 (.slice A1 t.cols.length c1)) 2 (.int .i64 t.key)) 3 (.slice A2 t.idx.length c2)
      simp only [List.setIfInBounds_toArray, List.set_cons_zero, List.set_cons_succ] at hh
      refine bodyPost_ret (v := .agg #[.string t.name, .slice A1 t.cols.length c1, .int .i64 t.key, .slice A2 t.idx.length c2]) ?_ rfl ⟨_, rfl, ⟨_, _, [], rfl, (HCOLS.out.keep hfin (fun b _ q => q.2.2.2)).mono (fun b _ q => q.1), by simp [HX.out], ?_, fun j x u hx => by rw [HX.out] at hx; simp at hx⟩, HFR2.out.trans hfin (fun i hi q => absurd hi (by omega))⟩
      · exact results_cell_row rfl _ _ _ 41 _ _ _ rfl hh Try.underlying41 rfl (by kernel_rfl)
      · rw [HX.out]
        exact ⟨⟨A2, c2, rfl, Nat.zero_le _, rfl, by simp [icells], fun j u hj => by simp [icells] at hj⟩, fun q => absurd rfl q⟩
  · obtain ⟨g, cap, hv, hb, hs, hc⟩ := owns_form HROW.out (by omega)
    injection hv with hv1 hv2 hv3
    subst hv1 hv3
    have HO := Lib.hid (show OwnR w K t svs w.heap.size g c2 (.slice A1 t.cols.length c1) 0 svs w3 from
      ⟨HFR2.out, HRES.out, HBOX.out, HCOLS.out.mono (fun b _ q => ⟨q.1, by omega, q.2.2.2⟩), HROW.out.mono (by omega), HI.out.len, by omega, by omega, Nat.le_refl _, fun j _ _ hj => by omega, fun j _ => rfl⟩)
    clear hz HROW HCOLS HFR2 HRES HBOX
    go_loopw [15] (fun u15 wr => ∃ (k : Nat) (svk : List Value), u15 = .int .i64 k ∧ k ≤ t.idx.length ∧ Hid (OwnR w K t svs w.heap.size g c2 (.slice A1 t.cols.length c1) k svk wr)) (fun i _ => t.idx.length - (intOf i).toNat)
    case atStart => exact ⟨0, svs, rfl, Nat.zero_le _, HO⟩
    case round =>
      clear HO
      obtain ⟨k, svk, rfl, hk, HO⟩ := hrel
      obtain ⟨z0, z1, z2, z3, z4⟩ := cells4 HO.out.box
      by_cases hlt : k < t.idx.length
      · obtain ⟨x, hx⟩ : ∃ x, t.idx[k]? = some x := ⟨_, List.getElem?_eq_getElem hlt⟩
        obtain ⟨u, hu⟩ : ∃ u, svs[k]? = some u := ⟨_, List.getElem?_eq_getElem (by rw [HI.out.len]; omega)⟩
        obtain ⟨q1, q2, q3⟩ := icells_at t.idx svk k x u hx (by rw [HO.out.old k (Nat.le_refl _), hu])
        have hs0 := (HI.out.each k x u hx hu).keep HO.out.fr (fun _ _ _ z => z)
        obtain ⟨As, cs, rfl, hcs⟩ := hs0.rc.form
        have HS := Lib.hid hs0
        have g1 := owns_at HO.out.row q2
        have g2 := HO.out.row.frozenAt (k * 3 + 1)
        have hxk := hxl x (List.mem_of_getElem? hx)
        have HX := Lib.hid hx
        have t1 : decide ((k : Int) < (t.idx.length : Int)) = true := by simp; omega
        have t2 : decide (k < t.idx.length) = true := by simp; omega
        have i1 : (0 : Int) ≤ (k : Int) := by omega
        have i2 : (k : Int) < (t.idx.length : Int) := by omega
        have i3 : (t.idx.length : Int) ≤ (c2 : Int) := by omega
        clear q1 q2 q3 hx hu hs0
        go_wp2_with fail
        have hpg : w.heap.size ≠ g := HO.out.pg
        go_region_with (first | (go_at_call 86; go_loud (refine (clone86_any _ _ _ _ (HS.out.rc.keep (Fr.drew (Fr.refl no wr)) (fun _ _ z => z)) hxk).mono ?_; rintro e w4 ⟨r, rfl, ho4, hf4⟩; obtain ⟨A4, c4, rfl⟩ := owns_slice ho4; have g4 := hf4.cell (show wr.drew.cell? _ = _ from g1) id; have g5 := hf4.cell (show wr.drew.cell? _ = _ from z3) id; have g6 : w4.frozen? ⟨g, k * 3 + 1, none⟩ = false := (hf4.owns (show wr.drew.ownsRow _ _ _ _ _ _ from HO.out.row) (fun _ _ q => q)).frozenAt _)))
        all_goals go_wp2
        all_goals
          go_roundw
          case rel => exact ⟨k + 1, svk.set k (.slice A4 x.cols.length c4), by go_num, by omega, Lib.hid (HO.out.step HX.out (show Fr no wr w4 from ((Fr.refl no wr).drew).trans hf4 (fun _ _ z => z)) ho4 rfl)⟩
          case measure => simp [intOf]; omega
      · obtain rfl : k = t.idx.length := by omega
        obtain ⟨r0, r1, r2, r3, r4⟩ := cells4 HO.out.res
        have rf0 := free_at HO.out.res 0
        have rf1 := free_at HO.out.res 1
        have rf2 := free_at HO.out.res 2
        have rf3 := free_at HO.out.res 3
        have t1 : decide ((t.idx.length : Int) < (t.idx.length : Int)) = false := by simp
        have t2 : decide (t.idx.length < t.idx.length) = false := by simp
        go_wp2_with fail
        have hfin := fr_set4 wr (w.heap.size + 1) (.string t.name) (.slice A1 t.cols.length c1) (.int .i64 t.key) (.slice (some ⟨g, 0, none⟩) t.idx.length c2)
        have hh := heap_setCell_at (heap_setCell_at (heap_setCell_at (heap_setCell_at HO.out.res 0 (.string t.name)) 1 (.slice A1 t.cols.length c1)) 2 (.int .i64 t.key)) 3 (.slice (some ⟨g, 0, none⟩) t.idx.length c2)
        simp only [List.setIfInBounds_toArray, List.set_cons_zero, List.set_cons_succ] at hh
        obtain ⟨v0, v1, v2, v3, v4⟩ := cells4 hh
        obtain ⟨d1, d2⟩ := HO.out.done hfin
        refine bodyPost_ret (v := .agg #[.string t.name, .slice A1 t.cols.length c1, .int .i64 t.key, .slice (some ⟨g, 0, none⟩) t.idx.length c2]) ?_ rfl ⟨_, rfl, d1, d2⟩
        exact results_cell_row rfl _ _ _ 41 _ _ _ rfl hh Try.underlying41 rfl (by kernel_rfl)
end Go.Proofs.Ythmjjbgjbcnjmaa
