import Derived.Test.YthmjjbgjbcnjmaaDf
namespace Go.Proofs.Ythmjjbgjbcnjmaa
open Go.RowKit Go.Hop

set_option maxHeartbeats 1000000 in
theorem read_any (a m : Nat) (s : DSt) (name : ByteArray) (w : World) (h : IsD w a m s) (hn : name.size ≤ 140737488351232) :
    Calls Try.prog 44 #[.pointer (some ⟨a, 0, none⟩), .string name] w fun e w' => e = .returned (.tuple #[.string (dread s name).1, .int .i64 (dread s name).2]) ∧ Fr no w w' := by
  have HR := Lib.hid (show dread s name = ((knownF s name).1, dknown s name) by unfold dread knownF; split <;> rfl)
  have HI := Lib.hid h
  clear h
  go_enter Try.func44, Try.ntmps44
  go_wp2_with (first | (go_at_call 81; refine (known_any a m s name _ HI.out hn).mono ?_; rintro e w1 ⟨rfl, hf1⟩) | fail)
  go_ret2
  exact ⟨by rw [HR.out]; rfl, hf1.alloc _⟩

set_option maxHeartbeats 1000000 in
theorem fuse_any (a m : Nat) (s : DSt) (n : Int) (w : World) (h : IsD w a m s) (hn : n ≤ 9223372036854775807) :
    Calls Try.prog 46 #[.pointer (some ⟨a, 0, none⟩), .int .i64 n] w (Done w a m (dfuse s n)) := by
  have hc1 := cells_at h.blk 1 _ rfl
  have hc3 := cells_at h.blk 3 _ rfl
  have hf1 := free_at h.blk 1
  have hf3 := free_at h.blk 3
  have HI := Lib.hid h
  clear h
  by_cases h0 : n < 0
  · have HR := Lib.hid (show dfuse s n = (1, s) by simp [dfuse, h0])
    go_enter Try.func46, Try.ntmps46
    go_wp2
    go_ret
    exact ⟨by rw [HR.out]; rfl, by rw [HR.out]; exact HI.out, Fr.refl _ _⟩
  · have HR := Lib.hid (show dfuse s n = (0, { s with fuse := some n.toNat }) by simp [dfuse, h0])
    go_enter Try.func46, Try.ntmps46
    go_wp2
    go_ret
    obtain ⟨hb, ⟨al, hm, hrel⟩, hne, hok⟩ := HI.out
    have hfr : Fr (fun x => x = a) w ((w.setCell ⟨a, 1, none⟩ (.bool true)).setCell ⟨a, 3, none⟩ (.int .i64 n)) := ((Fr.refl (fun x => x = a) w).setCell ⟨a, 1, none⟩ _ (fun _ => rfl)).setCell ⟨a, 3, none⟩ _ (fun _ => rfl)
    refine ⟨by rw [HR.out]; rfl, ?_, hfr.mono (fun _ _ q => .inl q)⟩
    rw [HR.out]
    refine ⟨?_, ⟨al, hm.keep hfr (fun q => hne q.symm), hrel⟩, hne, ⟨hok.srt, hok.few, hok.fit, hok.nam, by simp; omega⟩⟩
    have h1 := heap_setCell_at (heap_setCell_at hb 1 (.bool true)) 3 (.int .i64 n)
    have e : ((n.toNat : Nat) : Int) = n := by omega
    simpa [dblk, e] using h1

theorem new_any (w : World) : Calls Try.prog 9 #[] w fun e w' => e = .returned (.pointer (some ⟨w.heap.size + 1, 0, none⟩)) ∧ IsD w' (w.heap.size + 1) w.heap.size DSt.new ∧ Fr no w w' := by
  have hmm := @run_makeMap Try.prog
  go_enter Try.func9, Try.ntmps9
  go_wp2
  go_ret
  refine ⟨rfl, ⟨?_, ⟨[], ?_, Rel.nil⟩, by omega, DSt.Ok.new⟩, ((Fr.refl _ _).alloc _).alloc _⟩
  · have := heap_alloc_at (w.alloc (.map #[] 0)) (.cells #[.map (some w.heap.size), .bool false, .bool false, .int .i64 0] 75)
    simpa [dblk, DSt.new] using this
  · exact (MapIs.made w).keep ((Fr.refl no _).alloc _) id
end Go.Proofs.Ythmjjbgjbcnjmaa
