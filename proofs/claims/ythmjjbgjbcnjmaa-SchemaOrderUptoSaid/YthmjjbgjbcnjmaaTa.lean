import Derived.Test.YthmjjbgjbcnjmaaSd
import Derived.Laws.IdiomStrings
namespace Go.Proofs.Ythmjjbgjbcnjmaa
open Go.RowKit Go.Hop

/-! ### Names of schemas -/
def okS (c : UInt8) : Bool := (decide (97 ≤ c.toNat) && decide (c.toNat ≤ 122)) || (decide (48 ≤ c.toNat) && decide (c.toNat ≤ 57))
abbrev encB : UInt8 → Value := fun c => .int .u8 c.toNat
def namedS (s : ByteArray) : Bool := decide (0 < s.size) && (decide (s.size ≤ 32) && (bl s).all okS)

theorem bad_any (c : UInt8) (w : World) : Calls Try.prog 100 #[encB c] w fun e w' => e = .returned (.bool (!okS c)) ∧ w = w' := by
  have hc : c.toNat ≤ 255 := by have := c.toNat_lt; omega
  have hok : okS c = ((!decide ((c.toNat : Int) < 97) && !decide (122 < (c.toNat : Int))) || (!decide ((c.toNat : Int) < 48) && !decide (57 < (c.toNat : Int)))) := by
    rw [Bool.eq_iff_iff]; simp [okS]; omega
  cases e1 : decide ((c.toNat : Int) < 97) <;> cases e2 : decide (122 < (c.toNat : Int)) <;> cases e3 : decide ((c.toNat : Int) < 48) <;> cases e4 : decide (57 < (c.toNat : Int))
  all_goals first
    | (exfalso; simp only [decide_eq_true_eq, decide_eq_false_iff_not] at e1 e2 e3 e4; omega)
    | (rw [e1, e2, e3, e4] at hok
       have Hok := Lib.hid (show okS c = true from hok)
       clear hok
       go_enter Try.func100, Try.ntmps100
       go_wp2
       go_ret
       exact ⟨by rw [Hok.out]; simp, rfl⟩)
    | (rw [e1, e2, e3, e4] at hok
       have Hok := Lib.hid (show okS c = false from hok)
       clear hok
       go_enter Try.func100, Try.ntmps100
       go_wp2
       go_ret
       exact ⟨by rw [Hok.out]; simp, rfl⟩)

abbrev fn100 : Value := .func (.func 100) #[] #[]
set_option maxHeartbeats 1000000 in
set_option maxRecDepth 100000 in
theorem index_any (v : Value) (xs : List UInt8) (w : World) (h : Rd encB w v xs) (hl : xs.length ≤ 4611686018427387903) :
    Calls Try.prog 120 #[v, fn100] w (fun e w' => ∃ r : Int, e = .returned (.int .i64 r) ∧ w = w' ∧ decide (0 ≤ r) = xs.any (fun c => !okS c)) := by
  obtain ⟨A, c, rfl, hc⟩ := h.len
  have H := Lib.hid h
  clear h
  go_enter Try.func120, Try.ntmps120
  go_wp2
  go_loop [8] (fun i => ∃ k : Nat, k ≤ xs.length ∧ i = .int .i64 k ∧ Hid ((xs.take k).any (fun c => !okS c) = false)) (fun i => xs.length - (intOf i).toNat)
  case atStart => exact ⟨0, by omega, rfl, by simp [Hid]⟩
  case round =>
    obtain ⟨k, hk, rfl, hall⟩ := hrel
    by_cases hlt : k < xs.length
    · obtain ⟨x, hx⟩ : ∃ x, xs[k]? = some x := ⟨_, List.getElem?_eq_getElem hlt⟩
      obtain ⟨b, off, rfl, e0⟩ := H.out.at_ k x hx
      have HX := Lib.hid hx
      have t1 : decide ((k : Int) < (xs.length : Int)) = true := by simp; omega
      have t2 : decide (k < xs.length) = true := by simp; omega
      clear hx
      cases hbad : okS x with
      | true =>
        go_wp2_with (first | (go_at_call 100; go_loud (refine (bad_any x _).mono ?_; rintro e w' ⟨rfl, rfl⟩; rw [hbad])) | fail)
        go_round
        case rel => exact ⟨k + 1, by omega, by go_num, Lib.hid (by rw [List.take_add_one, HX.out]; simp only [Option.toList_some, List.any_append, hall.out]; simp [hbad])⟩
        case measure => simp [intOf]; omega
      | false =>
        have HB := Lib.hid hbad
        go_wp2_with (first | (go_at_call 100; go_loud (refine (bad_any x _).mono ?_; rintro e w' ⟨rfl, rfl⟩; rw [hbad])) | fail)
        go_ret
        refine ⟨k, rfl, rfl, ?_⟩
        rw [decide_eq_true (show (0 : Int) ≤ (k : Int) by omega), eq_comm, List.any_eq_true]
        exact ⟨x, List.mem_of_getElem? HX.out, by rw [HB.out]; rfl⟩
    · have t1 : decide ((k : Int) < (xs.length : Int)) = false := by simp; omega
      have t2 : decide (k < xs.length) = false := by simp; omega
      go_wp2
      go_ret
      refine ⟨-1, rfl, rfl, ?_⟩
      have := hall.out
      rw [List.take_of_length_le (by omega)] at this
      rw [this]; rfl

set_option maxHeartbeats 1000000 in
set_option maxRecDepth 100000 in
theorem contains_any (v : Value) (xs : List UInt8) (w : World) (h : Rd encB w v xs) (hl : xs.length ≤ 4611686018427387903) :
    Calls Try.prog 99 #[v, fn100] w (fun e w' => e = .returned (.bool (xs.any (fun c => !okS c))) ∧ w = w') := by
  have H := Lib.hid h
  clear h
  go_enter Try.func99, Try.ntmps99
  go_wp2_with (first | (go_at_call 120; go_loud (refine (index_any _ xs _ H.out hl).mono ?_; rintro e w' ⟨r, rfl, rfl, hr⟩; have HR := Lib.hid hr; clear hr)) | fail)
  all_goals go_ret
  all_goals refine ⟨?_, rfl⟩
  all_goals
    rw [← HR.out]
    try rfl
    try simp

theorem rd_bytes (w : World) (s : ByteArray) (cap : Nat) (hc : s.size ≤ cap) (e : TypeId) (fz : Nat × Nat) : Rd encB (w.drew.alloc (.cells (bytesRow s cap) e fz)) (.slice (some ⟨w.heap.size, 0, none⟩) s.size cap) (bl s) := by
  refine ⟨some ⟨w.heap.size, 0, none⟩, cap, by simp, by simpa using hc, fun j x hj => ⟨w.heap.size, 0, rfl, ?_⟩⟩
  have hjs : j < s.data.size := by have := (List.getElem?_eq_some_iff.1 hj).1; simpa using this
  have hb := bytesRow_at s cap j hjs
  have hx : x = s.data[j] := by
    have h2 : (s.data.toList)[j]? = some x := hj
    rw [Array.getElem?_toList, Array.getElem?_eq_getElem hjs] at h2
    injection h2 with h2; exact h2.symm
  subst hx
  rw [Nat.zero_add]
  have hh : (w.drew.alloc (.cells (bytesRow s cap) e fz)).heap[w.heap.size]? = some (.cells (bytesRow s cap) e fz) := heap_alloc_at w.drew _
  unfold World.cell?
  simp only [hh]
  simpa using hb

set_option maxHeartbeats 1000000 in
set_option maxRecDepth 100000 in
theorem namedS_any (s : ByteArray) (w : World) (hs : s.size ≤ 140737488351232) : Calls Try.prog 64 #[.string s] w (AsBefore w (.bool (namedS s))) := by
  by_cases h0 : s.size = 0
  · have hE : s.toList.isEmpty = true := by rw [Lib.toList_data]; obtain ⟨⟨l⟩⟩ := s; simp at h0; rw [h0]; rfl
    have HN := Lib.hid (show namedS s = false by simp [namedS, h0])
    clear h0
    go_enter Try.func64, Try.ntmps64
    go_wp2
    go_ret
    exact ⟨by rw [HN.out]; rfl, Fr.refl _ _⟩
  have hE : s.toList.isEmpty = false := by rw [Lib.toList_data]; obtain ⟨⟨l⟩⟩ := s; simp at h0 ⊢; intro q; subst q; exact h0 rfl
  by_cases h1 : 32 < s.size
  · have HN := Lib.hid (show namedS s = false by simp [namedS]; omega)
    go_enter Try.func64, Try.ntmps64
    go_wp2
    go_ret
    exact ⟨by rw [HN.out]; rfl, Fr.refl _ _⟩
  have h1' : s.size ≤ 32 := by omega
  have HN := Lib.hid (show namedS s = !((bl s).any (fun c => !okS c)) by unfold namedS; rw [decide_eq_true (show 0 < s.size by omega), decide_eq_true h1', List.any_eq_not_all_not]; simp)
  clear h0 h1
  have hcv := run_bytes_of_string (P := Try.prog) w 9 98 5 s Try.underlying9 Try.underlying98 Try.underlying5
  go_enter Try.func64, Try.ntmps64
  go_wp2_with (first | (go_at_call 99; go_loud (refine (contains_any _ (bl s) _ (rd_bytes w s _ (grownCap_ge _ _ _ _) _ _) (by simp; omega)).mono ?_; rintro e w' ⟨rfl, rfl⟩)) | fail)
  go_ret
  exact ⟨by rw [HN.out]; simp, ((Fr.refl no w).drew).alloc _⟩
end Go.Proofs.Ythmjjbgjbcnjmaa
