import Derived.Test.YthmjjbgjbcnjmaaSg
import Derived.Test.YthmjjbgjbcnjmaaRows
import Derived.WalkKit
import Derived.ProofKit
import Derived.OpenShut
import Derived.JoinedCond
import Derived.Carry
import Derived.Deep.Slices
namespace Go.Proofs.Ythmjjbgjbcnjmaa
open Go.ChangeShapes Go.WideShapes Go.ChangeAt Go.RowKit Go.Hop Go.Deep

theorem below_of {w w' : World} (h : Fr no w w') : Below w.heap.size w w' := ⟨h.os, h.tape, h.output, h.size, fun k hk => h.block k hk id⟩

/-- 'post' of a function that only reads what came in, and lays new blocks. -/
theorem post_below {H : Type} {enc : TypeId × Value → H} {P : Program} {f : Func} {s : ChangeSpec} {apart fresh handsOn again : Bool} {W W' : World} {args : Array Value} {v : Value} {ds gs : List (DataW H)} {before : List MemPlace}
    (hW : DataW.Whole enc P f.params.toList s.vars apart W args.toList ds gs before) (hl : laidOutB P = true) (hr : ∀ t ∈ f.params.toList, P.readableRec t = true ∧ t < P.types.size) (hv0 : s.vars = []) (hv1 : (s.fn H (ds ++ gs)).vars = [])
    (hres : ∀ (b : Nat) (sp : Nat → Bool) (hd : Bool), DataW.TrodAll enc P W' b sp hd f.resultTypes.toList (v.resultList f.resultTypes.size) (s.fn H (ds ++ gs)).results [])
    (hargs : (s.fn H (ds ++ gs)).args = ds) (hb : Below W.heap.size W W')
    (hok : ∀ (j : Nat) (t : TypeId) (r : Value), f.resultTypes[j]? = some t → (v.resultList f.resultTypes.size)[j]? = some r → Value.okWide P W' .any 0 t r) :
    s.post enc P f apart fresh handsOn again W args v W' := by
  have hW' := hW
  obtain ⟨p, q, hA, hV, rfl, hz, hn⟩ := hW
  rw [hv0] at hV
  obtain ⟨hgs, hq⟩ := trodVars_none hV
  subst hq
  have hlt : ∀ x ∈ p, x.block < W.heap.size := fun x hx => by simpa using hW'.lt x (by simpa using hx)
  have stays : ∀ (sp : Nat → Bool), (∀ x ∈ p, sp x.block = true) → DataW.TrodAll enc P W' 0 sp true f.params.toList args.toList ds p := by
    intro sp
    have gen : ∀ (ts : List TypeId) (vs : List Value) (ds : List (DataW H)) (p : List MemPlace), (∀ t ∈ ts, P.readableRec t = true ∧ t < P.types.size) → DataW.TrodAll enc P W 0 (fun _ => true) true ts vs ds p → (∀ x ∈ p, x.block < W.heap.size) → (∀ x ∈ p, sp x.block = true) → DataW.TrodAll enc P W' 0 sp true ts vs ds p := by
      intro ts
      induction ts with
      | nil => intro vs ds p _ h _ _; obtain ⟨rfl, rfl, rfl⟩ := trodAll_nil h; exact h
      | cons t ts ih =>
        intro vs ds p ht h hlt hsp
        obtain ⟨v, vs1, d, ds1, a, b, rfl, rfl, rfl, h1, h2⟩ := trodAll_cons h
        have ht1 := ht t (List.mem_cons_self)
        exact ⟨a, b, WideElems.Trod_stays hl ht1.1 ht1.2 h1 (fun x hx => hb.same (hlt x (List.mem_append_left _ hx))) (fun x hx => hsp x (List.mem_append_left _ hx)), ih _ _ _ (fun t q => ht t (List.mem_cons_of_mem _ q)) h2 (fun x hx => hlt x (List.mem_append_right _ hx)) (fun x hx => hsp x (List.mem_append_right _ hx)), rfl⟩
    exact gen _ _ _ _ hr hA hlt
  have hvars : ∀ sp : Nat → Bool, DataW.TrodVars enc P W' sp s.vars (s.fn H (ds ++ gs)).vars [] := fun sp => by rw [hv0, hv1]; rfl
  have hold : ∀ x ∈ p, (fun b => decide (b < W.heap.size)) x.block = true := fun x hx => by simpa using hlt x hx
  refine ⟨ds, gs, p ++ [], [], p, [], hW', hres _ _ _, by rw [hargs]; exact stays _ hold, hvars _, hb.frame _, fun _ => ?_⟩
  refine ⟨hok, _, _, ([] ++ p) ++ [], ⟨[] ++ p, [], trodAll_append (stays _ (fun _ _ => rfl)) (hres _ _ _), hvars _, rfl, ?_, ?_⟩, ?_⟩
  · intro b off hp
    simp only [List.nil_append, List.append_nil] at hp hz
    rw [hb.frozen (hlt _ hp)]
    exact hz b off hp
  · intro ha
    simpa using hn ha
  · intro x hx _
    simpa using hx

/-! ### The bulk -/
theorem one_le {H : Type} (d : DataW H) : 1 ≤ Rows.uptoBulk d := by
  cases d with
  | lit l => cases l <;> simp [Rows.uptoBulk]
  | nil => simp [Rows.uptoBulk]
  | ptr d => simp [Rows.uptoBulk]
  | slice elems spare => simp [Rows.uptoBulk]
  | agg parts => simp [Rows.uptoBulk]
  | iface t d => simp [Rows.uptoBulk]
  | map entries => simp [Rows.uptoBulk]
  | held h => simp [Rows.uptoBulk]
theorem part_le {H : Type} {d : DataW H} {l : List (DataW H)} (h : d ∈ l) : Rows.uptoBulk d ≤ Rows.uptoBulkAll l := by
  induction l with
  | nil => cases h
  | cons x r ih =>
    simp only [Rows.uptoBulkAll]
    cases List.mem_cons.1 h with
    | inl e => subst e; omega
    | inr e => have := ih e; omega
theorem length_le {H : Type} (l : List (DataW H)) : l.length ≤ Rows.uptoBulkAll l := by
  induction l with
  | nil => simp [Rows.uptoBulkAll]
  | cons x r ih => have := one_le x; simp only [Rows.uptoBulkAll, List.length_cons]; omega

/-! ### The acts, opened -/
theorem cells31 : Try.prog.cellsOf 31 = 5 := by kernel_rfl
theorem cells3' : Try.prog.cellsOf 3 = 1 := by kernel_rfl
theorem cells9' : Try.prog.cellsOf 9 = 1 := by kernel_rfl
theorem cells29' : Try.prog.cellsOf 29 = 1 := by kernel_rfl
theorem addr_of {w : World} {a : Addr} {v : Value} (h : w.cell? (a.add 0) = some v) : ∃ b off, a = ⟨b, off, none⟩ := by
  obtain ⟨b, off, spot⟩ := a
  have hspot : spot = none := by simpa [Addr.add] using World.cell?_spot h
  subst hspot
  exact ⟨b, off, rfl⟩
theorem cell_lt {w : World} {b o : Nat} {v : Value} (h : w.cell? ⟨b, o, none⟩ = some v) : b < w.heap.size := by
  rcases Nat.lt_or_ge b w.heap.size with q | q
  · exact q
  · have : w.heap[b]? = none := by simp; omega
    simp [World.cell?, this] at h

section
variable {H : Type} {enc : TypeId × Value → H} {w : World}

/-- the draws of an act, opened -/
theorem open_draws {fuel : Nat} {v : Value} {x : DataW H × List MemPlace} (h : DataW.trod enc Try.prog w 0 (fun _ => true) true fuel 29 [v] = some x) :
    ∃ ds : List Int, Rd encI w v ds ∧ ds.length + 1 ≤ Rows.uptoBulk x.1 ∧ (∀ d ∈ ds, -9223372036854775808 ≤ d ∧ d ≤ 9223372036854775807) ∧ (ds ≠ [] → ∀ k, v.ownBlock = some k → k < w.heap.size) := by
  rcases open_ints Try.underlying29 Try.underlying3 cells3' h with ⟨hc, rfl⟩ | ⟨a, len, cap, zs, hc, _, hle, hmx, hzl, rfl, hcell, hwf⟩
  · simp at hc
    subst hc
    exact ⟨[], ⟨none, 0, rfl, Nat.le_refl _, fun j x hj => by simp at hj⟩, by simp [Rows.uptoBulk], by simp, fun q => absurd rfl q⟩
  · simp at hc
    subst hc
    simp at hzl
    have hlen : (zs.take len).length = len := by rw [List.length_take]; omega
    refine ⟨zs.take len, ⟨some a, cap, by rw [hlen], by omega, fun j x hj => ?_⟩, ?_, ?_, ?_⟩
    · have hjl : j < len := by have := (List.getElem?_eq_some_iff.1 hj).1; omega
      have hj2 : j < zs.length := by omega
      have hcj := hcell j hj2
      obtain ⟨b, off, rfl⟩ := addr_of (hcell 0 (by omega))
      refine ⟨b, off, rfl, ?_⟩
      rw [add_at] at hcj
      rw [hcj]
      rw [List.getElem?_take_of_lt hjl] at hj
      simp [List.getD, hj]
    · have := length_le (lits (H := H) .i64 (zs.take len))
      simp only [Rows.uptoBulk]
      simp [lits, hlen] at this ⊢
      omega
    · intro d hd
      have := hwf d (List.mem_of_mem_take hd)
      exact bounds_i64 this
    · intro hne k hk
      have h0 : 0 < zs.length := by
        rcases Nat.eq_zero_or_pos zs.length with q | q
        · exfalso; apply hne; rw [List.eq_nil_of_length_eq_zero q]; simp
        · exact q
      have hc0 := hcell 0 h0
      obtain ⟨b, off, rfl⟩ := addr_of hc0
      rw [add_at] at hc0
      have : k = b := by injection hk with hk; exact hk.symm
      subst this
      exact cell_lt hc0

set_option maxRecDepth 100000 in
/-- an act, opened -/
theorem open_act {fuel : Nat} {cs : List Value} {x : DataW H × List MemPlace} (h : DataW.trod enc Try.prog w 0 (fun _ => true) true fuel 31 cs = some x) (hb : Rows.uptoBulk x.1 ≤ 1048576) :
    ∃ u : Act5, cs = [.int .i64 u.k, .string u.name, .string u.data, .int .i64 u.n, u.dv] ∧ u.Ok ∧ Rd encI w u.dv u.ds ∧ (u.ds ≠ [] → ∀ k, u.dv.ownBlock = some k → k < w.heap.size) := by
  obtain ⟨xs, n, _, rfl, hcl, hxl, hf⟩ := DataW.trod_struct Try.underlying31 h
  rw [cells31] at hcl
  match cs, hcl, xs, hxl with
  | [c0, c1, c2, c3, c4], _, [x0, x1, x2, x3, x4], _ =>
    have g0 := hf 0 _ rfl
    have g1 := hf 1 _ rfl
    have g2 := hf 2 _ rfl
    have g3 := hf 3 _ rfl
    have g4 := hf 4 _ rfl
    simp [cells3', cells9', cells29'] at g0 g1 g2 g3 g4
    obtain ⟨k, e0, rfl, w0⟩ := DataW.trod_int Try.underlying3 g0
    obtain ⟨s1, e1, rfl, w1⟩ := DataW.trod_string Try.underlying9 g1
    obtain ⟨s2, e2, rfl, w2⟩ := DataW.trod_string Try.underlying9 g2
    obtain ⟨m, e3, rfl, w3⟩ := DataW.trod_int Try.underlying3 g3
    obtain ⟨ds, r1, r2, r3, r4⟩ := open_draws g4
    simp at e0 e1 e2 e3
    subst e0 e1 e2 e3
    simp only [List.map_cons, List.map_nil, Rows.uptoBulk, Rows.uptoBulkAll, Array.length_toList] at hb
    have b1 : s1.data.size = s1.size := rfl
    have b2 : s2.data.size = s2.size := rfl
    have k0 := bounds_i64 w0
    have k3 := bounds_i64 w3
    exact ⟨⟨k, s1, s2, m, c4, ds⟩, rfl, ⟨k0, by simp only; omega, by simp only; omega, k3.2, by simp only; omega, r3⟩, r1, r4⟩

set_option maxRecDepth 100000 in
/-- the acts that came in, opened -/
theorem open_acts {v : Value} {d : DataW H} {ps : List MemPlace} (hv : Value.okWide Try.prog w .any 0 22 v ∨ ∃ A n c, v = .slice A n c) (h : DataW.Trod enc Try.prog w 0 (fun _ => true) true 22 v d ps) (hb : Rows.uptoBulk d ≤ 1048576) :
    ∃ A n c, v = .slice A n c ∧ n ≤ c ∧ n ≤ 1048576 ∧ Acts w A n := by
  obtain ⟨A, n, c, rfl⟩ : ∃ A n c, v = .slice A n c := by
    rcases hv with hv | hv
    · exact okWide_slice Try.underlying22 hv
    · exact hv
  obtain ⟨fuel, hf⟩ := h
  rcases open_slice Try.underlying22 hf with ⟨hc, hx⟩ | ⟨a, len, cap, m, q, D, Pl, hc, _, hle, hmx, hm, hx, hel⟩
  · simp [Value.cells] at hc
    obtain ⟨rfl, rfl, rfl⟩ := hc
    exact ⟨none, 0, 0, rfl, Nat.le_refl _, by omega, fun i hi => by omega⟩
  · simp [Value.cells] at hc
    obtain ⟨rfl, rfl, rfl⟩ := hc
    simp at hm
    subst hm
    injection hx with hx1 hx2
    subst hx1
    have hbD : ∀ i, i < n → Rows.uptoBulk (D i) ≤ 1048576 := fun i hi => by
      have := part_le (show D i ∈ (List.range n).map D from List.mem_map.2 ⟨i, List.mem_range.2 hi, rfl⟩)
      simp only [Rows.uptoBulk] at hb
      omega
    have hlen : n ≤ 1048576 := by
      have := length_le ((List.range n).map D)
      simp only [List.length_map, List.length_range, Rows.uptoBulk] at this hb
      omega
    refine ⟨some a, n, _, rfl, hle, hlen, fun i hi => ?_⟩
    obtain ⟨cs', h1, h2⟩ := hel i (by omega)
    rw [cells31] at h1
    obtain ⟨_, hcl, hcell⟩ := World.cells?_some h1
    obtain ⟨u, rfl, hu, hr, hfar⟩ := open_act h2 (hbD i hi)
    have k0 := hcell 0 (by omega)
    have k1 := hcell 1 (by omega)
    have k2 := hcell 2 (by omega)
    have k3 := hcell 3 (by omega)
    have k4 := hcell 4 (by omega)
    rw [add_add] at k0 k1 k2 k3 k4
    simp at k0 k1 k2 k3 k4
    obtain ⟨b, off, rfl⟩ : ∃ b off, a = ⟨b, off, none⟩ := by
      obtain ⟨cs0, h10, h20⟩ := hel 0 (by omega)
      rw [cells31] at h10
      obtain ⟨_, hcl0, hcell0⟩ := World.cells?_some h10
      have z := hcell0 0 (by omega)
      rw [add_add] at z
      simp only [Nat.zero_mul, Nat.zero_add] at z
      rw [List.getElem?_eq_getElem (by omega)] at z
      exact addr_of z
    rw [add_at] at k0 k1 k2 k3 k4
    exact ⟨b, off, rfl, cell_lt k0, u, hu, ⟨k0, by rw [Nat.add_assoc]; exact k1, by rw [Nat.add_assoc]; exact k2, by rw [Nat.add_assoc]; exact k3, by rw [Nat.add_assoc]; exact k4⟩, hr, hfar⟩
end
end Go.Proofs.Ythmjjbgjbcnjmaa
