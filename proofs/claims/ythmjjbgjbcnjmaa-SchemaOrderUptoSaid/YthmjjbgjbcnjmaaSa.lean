import Derived.Test.YthmjjbgjbcnjmaaRl
import Derived.Laws.OwnMore
import Derived.Deep.AppendLies
namespace Go.Proofs.Ythmjjbgjbcnjmaa
open Go.RowKit Go.Hop

def AsBefore (w : World) (r : Value) (e : Ending) (w' : World) : Prop := e = .returned r ∧ Fr no w w'

set_option maxHeartbeats 1000000 in
set_option maxRecDepth 100000 in
theorem texts_any (v v' : Value) (xs : List ByteArray) (w : World) (h : Rd (fun x => Value.string x) w v xs) (h' : Rd (fun x => Value.string x) w v' xs) (hl : xs.length ≤ 4611686018427387903) :
    Calls Try.prog 20 #[v, v'] w (AsBefore w (.bool true)) := by
  obtain ⟨A, c, rfl, hc⟩ := h.len
  obtain ⟨A', c', rfl, hc'⟩ := h'.len
  have H := Lib.hid h
  have H' := Lib.hid h'
  clear h h'
  go_enter Try.func20, Try.ntmps20
  go_wp2
  go_loopw [5] (fun i wr => ∃ k q : Nat, k ≤ xs.length ∧ i = .int .i64 k ∧ wr = w.drewN q) (fun i _ => xs.length - (intOf i).toNat)
  case atStart => exact ⟨0, 0, Nat.zero_le _, rfl, rfl⟩
  case round =>
    obtain ⟨k, q, hk, rfl, rfl⟩ := hrel
    by_cases hlt : k < xs.length
    · obtain ⟨x, hx⟩ : ∃ x, xs[k]? = some x := ⟨_, List.getElem?_eq_getElem hlt⟩
      obtain ⟨b, off, rfl, e0⟩ := H.out.at_ k x hx
      obtain ⟨b', off', rfl, e0'⟩ := H'.out.at_ k x hx
      have t1 : decide ((k : Int) < (xs.length : Int)) = true := by simp; omega
      have t2 : decide (k < xs.length) = true := by simp; omega
      clear hx
      go_wp2_with fail
      go_quiet (fail)
      go_wp2_with fail
      go_roundw
      case rel => exact ⟨k + 1, _, by omega, by go_num, rfl⟩
      case measure => simp [intOf]; omega
    · have t1 : decide ((k : Int) < (xs.length : Int)) = false := by simp; omega
      have t2 : decide (k < xs.length) = false := by simp; omega
      go_wp2
      go_ret
      exact ⟨rfl, (Fr.refl _ _).drewN _⟩

set_option maxHeartbeats 1000000 in
set_option maxRecDepth 100000 in
theorem ints_any (v v' : Value) (xs : List Int) (w : World) (h : Rd encI w v xs) (h' : Rd encI w v' xs) (hl : xs.length ≤ 4611686018427387903) :
    Calls Try.prog 62 #[v, v'] w (AsBefore w (.bool true)) := by
  obtain ⟨A, c, rfl, hc⟩ := h.len
  obtain ⟨A', c', rfl, hc'⟩ := h'.len
  have H := Lib.hid h
  have H' := Lib.hid h'
  clear h h'
  go_enter Try.func62, Try.ntmps62
  go_wp2
  go_loopw [5] (fun i wr => ∃ k q : Nat, k ≤ xs.length ∧ i = .int .i64 k ∧ wr = w.drewN q) (fun i _ => xs.length - (intOf i).toNat)
  case atStart => exact ⟨0, 0, Nat.zero_le _, rfl, rfl⟩
  case round =>
    obtain ⟨k, q, hk, rfl, rfl⟩ := hrel
    by_cases hlt : k < xs.length
    · obtain ⟨x, hx⟩ : ∃ x, xs[k]? = some x := ⟨_, List.getElem?_eq_getElem hlt⟩
      obtain ⟨b, off, rfl, e0⟩ := H.out.at_ k x hx
      obtain ⟨b', off', rfl, e0'⟩ := H'.out.at_ k x hx
      have t1 : decide ((k : Int) < (xs.length : Int)) = true := by simp; omega
      have t2 : decide (k < xs.length) = true := by simp; omega
      clear hx
      go_wp2_with fail
      go_quiet (fail)
      go_wp2_with fail
      go_roundw
      case rel => exact ⟨k + 1, _, by omega, by go_num, rfl⟩
      case measure => simp [intOf]; omega
    · have t1 : decide ((k : Int) < (xs.length : Int)) = false := by simp; omega
      have t2 : decide (k < xs.length) = false := by simp; omega
      go_wp2
      go_ret
      exact ⟨rfl, (Fr.refl _ _).drewN _⟩

theorem El29 : El Try.prog 29 3 1 8 := El.mk_ (.int .i64 0) Try.underlying29 (by decide) rfl (by kernel_rfl)
/-- a lent copy: the ints, and -77 behind them -/
structure Lent (w : World) (g n c : Nat) (xs : List Int) : Prop where
  rd : Rd encI w (.slice (some ⟨g, 0, none⟩) n c) xs
  ln : n = xs.length
  cap : n + 1 ≤ c
  cell : w.cell? ⟨g, n, none⟩ = some (.int .i64 (-77))
  lt : g < w.heap.size
theorem Rc.of_rd {w : World} {v : Value} {xs : List Int} (h : Rd encI w v xs) : Rc w 1 v xs.length (xs.map encI) := by
  obtain ⟨A, c, rfl, hc, hx⟩ := h
  refine ⟨A, c, rfl, hc, by simp, by simp [encI, Value.oneCell'], fun j u hj => ?_⟩
  rw [List.getElem?_map] at hj
  cases hxj : xs[j]? with
  | none => simp [hxj] at hj
  | some x =>
    simp only [hxj, Option.map_some, Option.some.injEq] at hj
    subst hj
    exact hx j x hxj
theorem Lent.keep {S : Nat → Prop} {w w' : World} {g n c : Nat} {xs : List Int} (h : Lent w g n c xs) (hf : Fr S w w') (hg : ¬ S g) : Lent w' g n c xs :=
  ⟨h.rd.keep hf (fun k hk => by injection hk with hk; exact hk ▸ hg), h.ln, h.cap, hf.cell h.cell hg, Nat.lt_of_lt_of_le h.lt hf.size⟩

set_option maxHeartbeats 1000000 in
theorem among_any (k : Int) (w : World) (h : -9223372036854775808 ≤ k ∧ k ≤ 9223372036854775807) : Calls Try.prog 35 #[.int .i64 k, .int .i64 7] w (fun e w' => e = .returned (.int .i64 (k.tmod 7 % 7)) ∧ w = w') := by
  have h1 := h.1
  have h2 := h.2
  have r1 := Int.tmod_lt_of_pos k (show (0 : Int) < 7 by omega)
  have r2 := Int.lt_tmod_of_pos k (show (0 : Int) < 7 by omega)
  have hw1 : IntKind.i64.wrap (k.tmod 7) = k.tmod 7 := IntWalk.i64_in _ (by omega)
  have hw2 : IntKind.i64.wrap (k.tmod 7 + 7) = k.tmod 7 + 7 := IntWalk.i64_in _ (by omega)
  have r3 := Int.tmod_lt_of_pos (k.tmod 7 + 7) (show (0 : Int) < 7 by omega)
  have r4 := Int.tmod_nonneg 7 (show 0 ≤ k.tmod 7 + 7 by omega)
  have hw3 : IntKind.i64.wrap ((k.tmod 7 + 7).tmod 7) = (k.tmod 7 + 7).tmod 7 := IntWalk.i64_in _ (by omega)
  go_enter Try.func35, Try.ntmps35
  go_wp2
  go_ret
  exact ⟨by simp, rfl⟩

theorem owns_form {w : World} {base size n : Nat} {e : TypeId} {v : Value} {xs : List Value} (h : w.ownsRow base e size v n xs) (hn : 0 < n) : ∃ g cap, v = .slice (some ⟨g, 0, none⟩) n cap ∧ base ≤ g ∧ g < w.heap.size ∧ n ≤ cap := by
  rcases h.2 with ⟨_, h0⟩ | ⟨g, cap, cur, hv, hb, hg, hc, _⟩
  · omega
  · exact ⟨g, cap, hv, hb, heap_lt hg, hc⟩

theorem Lent.of_owns {w : World} {base g cap : Nat} {e : TypeId} {xs : List Int} (h : w.ownsRow base e 1 (.slice (some ⟨g, 0, none⟩) (0 + xs.length + 1) cap) (0 + xs.length + 1) ([] ++ xs.map encI ++ [.int .i64 (-77)])) (hc : 0 + xs.length + 1 ≤ cap) (hg : g < w.heap.size) : Lent w g xs.length cap xs := by
  refine ⟨⟨_, cap, rfl, by omega, fun j x hj => ⟨g, 0, rfl, ?_⟩⟩, rfl, by omega, ?_, hg⟩
  · have hlt := (List.getElem?_eq_some_iff.1 hj).1
    rw [Nat.zero_add, h.cellAt j (by omega), List.nil_append, List.getElem?_append_left (by simpa using hlt), List.getElem?_map, hj]; rfl
  · rw [h.cellAt xs.length (by omega), List.nil_append, List.getElem?_append_right (by simp)]; simp

set_option maxHeartbeats 1000000 in
set_option maxRecDepth 100000 in
theorem lend_any (v : Value) (xs : List Int) (w : World) (h : Rd encI w v xs) (hl : xs.length ≤ 8796093022207) :
    Calls Try.prog 48 #[v] w (fun e w' => ∃ g c, e = .returned (.slice (some ⟨g, 0, none⟩) xs.length c) ∧ Lent w' g xs.length c xs ∧ w.heap.size ≤ g ∧ Fr no w w') := by
  obtain ⟨A, c, rfl, hc⟩ := h.len
  have HRc := Lib.hid (Rc.of_rd h)
  clear h
  go_enter Try.func48, Try.ntmps48
  go_wp2_with (first | (at_builtin; go_loud (refine wp_append rfl (.tmp 4) (.tmp 5) 29 rfl El29 _ 0 [] rfl ((World.ownsRow_lit (base := w.heap.size) (size := 1) (e := 3) w #[] 0 (Nat.le_refl _) (by unfold maxLen; omega) rfl)) _ _ _ rfl (HRc.out.keep ((Fr.refl no w).alloc _) (fun _ _ z => z)) (by unfold maxLen; omega) (by omega) (by simp) ?_; intro v1 w1 ho1 hg1 hloc1; have HO1 := Lib.hid ho1; have HG1 := Lib.hid hg1; clear ho1 hg1 hloc1)) | (at_builtin; go_loud (refine wp_append rfl (.tmp 7) (.tmp 8) 29 rfl El29 _ _ _ rfl (HO1.out.alloc _) _ 1 [.int .i64 (-77)] rfl (rc_new1 _ _ _) (by unfold maxLen; omega) (by omega) (by have := HG1.out.size; simp at this ⊢; omega) ?_; intro v2 w2 ho2 hg2 hloc2; obtain ⟨g, cap, hv2, hb2, hs2, hc2⟩ := owns_form ho2 (by omega); subst hv2; have hcI : (xs.length : Int) ≤ cap := (by omega); have hcN : xs.length ≤ cap := (by omega); have HO2 := Lib.hid ho2; have HG2 := Lib.hid hg2; clear ho2 hg2 hloc2)) | fail)
  go_ret
  have h01 : Fr no w w1 := ((Fr.refl no w).alloc (.cells #[] 3)).trans (Fr.grown HG1.out) (fun i hi q => absurd hi (by
    have q2 : some i = some w.heap.size := q
    injection q2 with q2; omega))
  exact ⟨g, cap, rfl, Lent.of_owns HO2.out hc2 hs2, hb2, (h01.alloc _).trans (Fr.grown HG2.out) (fun i hi q => absurd (HO1.out.lt i q.symm).1 (by omega))⟩

set_option maxHeartbeats 1000000 in
set_option maxRecDepth 100000 in
theorem kept_any (g c : Nat) (v : Value) (xs : List Int) (w : World) (h : Lent w g xs.length c xs) (h' : Rd encI w v xs) (hl : xs.length ≤ 8796093022207) :
    Calls Try.prog 51 #[.slice (some ⟨g, 0, none⟩) xs.length c, v] w (AsBefore w (.bool true)) := by
  obtain ⟨A', c', rfl, hc'⟩ := h'.len
  have hcell := h.cell
  have hcap := h.cap
  have hlt := h.lt
  have H := Lib.hid h
  have H' := Lib.hid h'
  have hcI : (xs.length : Int) + 1 ≤ c := by omega
  clear h h'
  go_enter Try.func51, Try.ntmps51
  go_wp2_with (first | (go_at_call 62; go_loud (refine (ints_any _ _ xs _ H.out.rd H'.out (by omega)).mono ?_; rintro e w1 ⟨rfl, hf⟩; have e0 := hf.cell hcell id)) | fail)
  go_ret
  exact ⟨by simp, hf⟩

theorem lawnames_any (w : World) : Calls Try.prog 11 #[] w (fun e w' => e = .returned (.bool true) ∧ w = w') := by
  go_enter Try.func11, Try.ntmps11
  go_wp2
  go_ret
  exact ⟨rfl, rfl⟩
end Go.Proofs.Ythmjjbgjbcnjmaa
