import Derived.Test.YthmjjbgjbcnjmaaProg
import Derived.Test.YthmjjbgjbcnjmaaDa
namespace Go.Proofs.Ythmjjbgjbcnjmaa
open Go.RowKit Go.Hop

/-- the disk's block -/
def dblk (mv : Value) (s : DSt) : Obj := .cells #[mv, .bool s.fuse.isSome, .bool s.down, .int .i64 ((s.fuse.getD 0 : Nat) : Int)] 75 (0, 0)

set_option maxHeartbeats 400000 in
set_option maxRecDepth 100000 in
theorem change_any (a : Nat) (mv : Value) (s : DSt) (w : World) (h : w.heap[a]? = some (dblk mv s)) (hs : s.fuse.getD 0 ≤ 9223372036854775807) :
    Calls Try.prog 73 #[.pointer (some ⟨a, 0, none⟩)] w fun e w' => e = .returned (.bool (chg s).1) ∧ w'.heap[a]? = some (dblk mv (chg s).2) ∧ Fr (· = a) w w' := by
  obtain ⟨files, fuse, down⟩ := s
  have hc1 := cells_at h 1 _ rfl
  have hc2 := cells_at h 2 _ rfl
  have hc3 := cells_at h 3 _ rfl
  have hf2 := free_at h 2
  have hf3 := free_at h 3
  have H := Lib.hid h
  clear h
  simp only at hs hc1 hc2 hc3
  rcases fuse with _ | n
  · cases down
    · go_enter Try.func73, Try.ntmps73
      go_wp2
      go_ret
      exact ⟨rfl, H.out, Fr.refl _ _⟩
    · go_enter Try.func73, Try.ntmps73
      go_wp2
      go_ret
      exact ⟨rfl, H.out, Fr.refl _ _⟩
  · by_cases hn : n = 0
    · subst hn
      go_enter Try.func73, Try.ntmps73
      go_wp2
      go_ret
      refine ⟨by simp [chg], ?_, (Fr.refl _ _).setCell _ _ (fun _ => rfl)⟩
      have := heap_setCell_at H.out 2 (.bool true)
      simpa [dblk, chg] using this
    · have hb : ((n : Int) == 0) = false := by simp; omega
      have hn1 : 1 ≤ n := by omega
      have hn2 : n ≤ 9223372036854775807 := hs
      cases down
      · go_enter Try.func73, Try.ntmps73
        go_wp2
        go_ret
        have hne : ¬ (some n = some 0) := by simpa using hn
        refine ⟨by simp [chg, hn], ?_, (Fr.refl _ _).setCell _ _ (fun _ => rfl)⟩
        have := heap_setCell_at H.out 3 (.int .i64 ((n : Int) - 1))
        have e : ((n : Int) - 1) = ((n - 1 : Nat) : Int) := by omega
        rw [e] at this ⊢
        simpa [dblk, chg, hn] using this
      · go_enter Try.func73, Try.ntmps73
        go_wp2
        go_ret
        exact ⟨by simp [chg], by simpa [chg] using H.out, Fr.refl _ _⟩
end Go.Proofs.Ythmjjbgjbcnjmaa
