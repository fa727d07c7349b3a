import Derived.Test.YthmjjbgjbcnjmaaDg
import Derived.Test.YthmjjbgjbcnjmaaKb
import Derived.Test.YthmjjbgjbcnjmaaIt
namespace Go.Proofs.Ythmjjbgjbcnjmaa
open Go.RowKit Go.Hop Go.Sort

theorem enc_keys (l : List (ByteArray × File)) : (l.map (fun p => bl p.1)).map encStr = l.map (fun p => Value.string p.1) := by
  rw [List.map_map]
  refine List.map_congr_left fun p _ => ?_
  show Value.string ⟨(bl p.1).toArray⟩ = _
  congr 1

set_option maxHeartbeats 1000000 in
theorem names_any (a m : Nat) (s : DSt) (w : World) (h : IsD w a m s) :
    Calls Try.prog 52 #[.pointer (some ⟨a, 0, none⟩)] w fun e w' => ∃ v, e = .returned v ∧ w'.ownsRow w.heap.size 9 1 v s.files.length (s.files.map (fun p => Value.string p.1)) ∧ Fr no w w' := by
  have hc0 : w.cell? ⟨a, 0, none⟩ = some (.map (some m)) := cells_at h.blk 0 _ rfl
  have HI := Lib.hid h
  clear h
  obtain ⟨al, hm, hrel⟩ := HI.out.map
  have hlen : (mapv encF al).length = s.files.length := by rw [← hrel.length]; simp [mapv]
  have hfew := HI.out.ok.few
  obtain ⟨D, hown, hperm, hsize⟩ := hm.owns (P := Try.prog) (k := 9) Try.underlying9 (fun p hp => by
    simp only [mapv, List.mem_map] at hp
    obtain ⟨q, hq, rfl⟩ := hp
    have hg := get_of_mem hrel.nd (show (q.1, q.2) ∈ al from hq)
    rw [hrel.eq] at hg
    have := HI.out.ok.nam _ (get_some_mem hg)
    unfold maxLen; simp only at this ⊢; omega) (by rw [hlen]; unfold maxLen; omega)
  have hperm' : (strKeys D).Perm (al.map (fun p => bl p.1)) := by simpa [mapv, List.map_map, Function.comp_def] using hperm
  have Hsz := Lib.hid hsize
  have Hlen := Lib.hid hlen
  clear hsize hlen hperm
  refine (callsIn_wide (n := 6)).1 ?_
  have hfK : Fence.wide.fn 82 := trivial
  have hfS : Fence.wide.fn 57 := trivial
  refine callsIn_of_wp Try.func52 rfl trivial ?_ rfl
  simp only [Try.ntmps52, List.size_toArray, List.length_cons, List.length_nil, Nat.reduceAdd, Nat.reduceSub, Array.replicate_succ, Array.replicate_zero, List.push_toArray, List.append_toArray, List.nil_append, List.cons_append]
  gi_wp2_with (first | (gi_at_call 82; refine (Try.maps_Keys_82 _ _).mono ?_; rintro e w' ⟨rfl, rfl⟩) | (gi_at_call 57; refine (Try.slices_Sorted_keys_57_82 m _ D anyE w hown (by rw [Hsz.out, Hlen.out]; unfold maxLen; omega) (by rw [Hsz.out, Hlen.out]; omega)).mono ?_; rintro e w' ⟨v, ss, rfl, hS, hrow, hnil, hb⟩))
  go_ret
  have hss := sorted_names hrel (hS.trans hperm')
  rw [hss, enc_keys] at hrow
  have hl : ss.length = s.files.length := by
    have := (hS.trans hperm').length_eq
    rw [this, List.length_map, hrel.length]
  rw [hl] at hrow
  exact ⟨v, rfl, ownsRow_base_a hrow (by simp), ((Fr.refl no w).alloc _).trans (Fr.below hb no) (fun _ _ q => q)⟩
end Go.Proofs.Ythmjjbgjbcnjmaa
