import Derived.Test.YthmjjbgjbcnjmaaProg
import Derived.Test.YthmjjbgjbcnjmaaDa
namespace Go.Proofs.Ythmjjbgjbcnjmaa
open Go.RowKit Go.Hop

theorem all_take_succ (s : ByteArray) (p : UInt8 → Bool) (k : Nat) (h : k < s.size) : ((bl s).take (k + 1)).all p = (((bl s).take k).all p && p s[k]) := by
  have : (bl s).take (k + 1) = (bl s).take k ++ [s[k]] := by
    rw [List.take_succ_eq_append_getElem (by simpa using h)]; rfl
  rw [this]; simp
theorem all_of_take {s : ByteArray} {p : UInt8 → Bool} {k : Nat} (h : s.size ≤ k) : ((bl s).take k).all p = (bl s).all p := by
  rw [List.take_of_length_le (by simpa using h)]
theorem all_false_of_take {s : ByteArray} {p : UInt8 → Bool} {k : Nat} (h : ((bl s).take k).all p = false) : (bl s).all p = false := by
  rw [List.all_eq_false] at h ⊢
  obtain ⟨x, hx, hp⟩ := h
  exact ⟨x, List.mem_of_mem_take hx, hp⟩

set_option maxHeartbeats 400000 in
theorem may_any (s : ByteArray) (w : World) (hs : s.size ≤ 140737488351232) :
    Calls Try.prog 72 #[.string s] w fun e w' => e = .returned (.bool (named s)) ∧ w = w' := by
  by_cases h0 : s.size = 0
  · have hE : s.toList.isEmpty = true := by rw [Lib.toList_data]; obtain ⟨⟨l⟩⟩ := s; simp at h0; rw [h0]; rfl
    have Hn : named s = false := by simp [named, h0]
    have H0 := Lib.hid h0
    have HN := Lib.hid Hn
    clear h0 Hn
    go_enter Try.func72, Try.ntmps72
    go_wp2
    go_ret
    exact ⟨by rw [HN.out]; rfl, rfl⟩
  have hE : s.toList.isEmpty = false := by rw [Lib.toList_data]; obtain ⟨⟨l⟩⟩ := s; simp at h0 ⊢; intro q; subst q; exact h0 rfl
  by_cases h1 : 32 < s.size
  · have HN := Lib.hid (show named s = false by simp [named]; omega)
    go_enter Try.func72, Try.ntmps72
    go_wp2
    go_ret
    exact ⟨by rw [HN.out]; rfl, rfl⟩
  have h1' : s.size ≤ 32 := by omega
  have HN := Lib.hid (show named s = (bl s).all okByte by unfold named; rw [decide_eq_true (show 0 < s.size by omega), decide_eq_true h1']; rfl)
  clear h0 h1
  go_enter Try.func72, Try.ntmps72
  go_wp2
  go_loop [14] (fun i => ∃ k : Nat, k ≤ s.size ∧ i = .int .i64 k ∧ ((bl s).take k).all okByte = true) (fun i => s.size - (intOf i).toNat)
  case atStart => exact ⟨0, by omega, rfl, by simp⟩
  case round =>
    obtain ⟨k, hk, rfl, hall⟩ := hrel
    have HA := Lib.hid hall
    clear hall
    by_cases hlt : k < s.size
    · have hsn := Lib.hid (all_take_succ s okByte k hlt)
      go_wp2
      all_goals first
        | (have ok : okByte s[k] = true := by ((try simp only [beq_iff_eq] at *); (try simp only [beq_eq_false_iff_ne] at *); simp [okByte]; omega)
           go_round
           case rel => exact ⟨k + 1, by omega, by go_num, by rw [hsn.out, HA.out, ok]; rfl⟩
           case measure => (simp [intOf]; omega))
        | (have ok : okByte s[k] = false := by ((try simp only [beq_iff_eq] at *); (try simp only [beq_eq_false_iff_ne] at *); simp [okByte]; omega)
           go_ret
           exact ⟨by rw [HN.out, all_false_of_take (k := k + 1) (by rw [hsn.out, ok]; simp)]; rfl, rfl⟩)
    · go_wp2
      go_ret
      exact ⟨by rw [HN.out, ← all_of_take (k := k) (by omega), HA.out]; rfl, rfl⟩
end Go.Proofs.Ythmjjbgjbcnjmaa
