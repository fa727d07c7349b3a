import Derived.Test.YthmjjbgjbcnjmaaDc
import Derived.Test.YthmjjbgjbcnjmaaKd
import Derived.StillTailTactics
namespace Go.Proofs.Ythmjjbgjbcnjmaa
open Go.RowKit Go.Hop

set_option maxHeartbeats 400000 in
theorem named_any (s : ByteArray) (w : World) (hs : s.size ≤ 140737488351232) :
    Calls Try.prog 74 #[.string s] w fun e w' => e = .returned (.bool (named s)) ∧ w = w' := by
  by_cases h0 : s.size = 0
  · have hE : s.toList.isEmpty = true := by rw [Lib.toList_data]; obtain ⟨⟨l⟩⟩ := s; simp at h0; rw [h0]; rfl
    have Hn : named s = false := by simp [named, h0]
    have H0 := Lib.hid h0
    have HN := Lib.hid Hn
    clear h0 Hn
    go_enter Try.func74, Try.ntmps74
    go_wp2
    go_ret
    exact ⟨by rw [HN.out]; rfl, rfl⟩
  have hE : s.toList.isEmpty = false := by rw [Lib.toList_data]; obtain ⟨⟨l⟩⟩ := s; simp at h0 ⊢; intro q; subst q; exact h0 rfl
  by_cases h1 : 32 < s.size
  · have HN := Lib.hid (show named s = false by simp [named]; omega)
    go_enter Try.func74, Try.ntmps74
    go_wp2
    go_ret
    exact ⟨by rw [HN.out]; rfl, rfl⟩
  have h1' : s.size ≤ 32 := by omega
  have HN := Lib.hid (show named s = (bl s).all okByte by unfold named; rw [decide_eq_true (show 0 < s.size by omega), decide_eq_true h1']; rfl)
  clear h0 h1
  go_enter Try.func74, Try.ntmps74
  go_wp2
  go_loop [3] (fun i => ∃ k : Nat, k ≤ s.size ∧ i = .int .i64 k ∧ ((bl s).take k).all okByte = true) (fun i => s.size - (intOf i).toNat)
  case atStart => exact ⟨0, by omega, rfl, by simp⟩
  case round =>
    obtain ⟨k, hk, rfl, hall⟩ := hrel
    have HA := Lib.hid hall
    clear hall
    by_cases hlt : k < s.size
    · have hsn := Lib.hid (all_take_succ s okByte k hlt)
      have hok : okByte s[k] = ((decide (97 ≤ (s[k].toNat : Int)) && decide ((s[k].toNat : Int) ≤ 122)) || ((decide (48 ≤ (s[k].toNat : Int)) && decide ((s[k].toNat : Int) ≤ 57)) || ((s[k].toNat : Int) == 46))) := by
        rw [Bool.eq_iff_iff]; simp [okByte]; omega
      cases e1 : decide (97 ≤ (s[k].toNat : Int)) <;> cases e2 : decide ((s[k].toNat : Int) ≤ 122) <;> cases e3 : decide (48 ≤ (s[k].toNat : Int)) <;> cases e4 : decide ((s[k].toNat : Int) ≤ 57) <;> cases e5 : ((s[k].toNat : Int) == 46)
      all_goals first
        | (exfalso; simp only [decide_eq_true_eq, decide_eq_false_iff_not, beq_iff_eq, beq_eq_false_iff_ne] at e1 e2 e3 e4 e5; omega)
        | (rw [e1, e2, e3, e4, e5] at hok
           have Hok := Lib.hid (show okByte s[k] = true from hok)
           clear hok
           go_wp2
           go_round
           case rel => exact ⟨k + 1, by omega, by go_num, by rw [hsn.out, HA.out, Hok.out]; rfl⟩
           case measure => (simp [intOf]; omega))
        | (rw [e1, e2, e3, e4, e5] at hok
           have Hok := Lib.hid (show okByte s[k] = false from hok)
           clear hok
           go_wp2
           go_ret
           exact ⟨by rw [HN.out, all_false_of_take (k := k + 1) (by rw [hsn.out, Hok.out]; simp)]; rfl, rfl⟩)
    · go_wp2
      go_ret
      exact ⟨by rw [HN.out, ← all_of_take (k := k) (by omega), HA.out]; rfl, rfl⟩
end Go.Proofs.Ythmjjbgjbcnjmaa
