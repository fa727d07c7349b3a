import Derived.Test.YthmjjbgjbcnjmaaTi
import Derived.Test.YthmjjbgjbcnjmaaDh
namespace Go.Proofs.Ythmjjbgjbcnjmaa
open Go.RowKit Go.Hop Go.Sort

theorem enc_keysT (l : Cat) : (l.map (fun p => bl p.1)).map encStr = l.map (fun p => Value.string p.1) := by
  rw [List.map_map]
  refine List.map_congr_left fun p _ => ?_
  show Value.string ⟨(bl p.1).toArray⟩ = _
  congr 1

set_option maxHeartbeats 1000000 in
theorem cnames_any (K : Nat → Prop) (a m : Nat) (l : Cat) (w : World) (h : IsC w K a m l) :
    Calls Try.prog 21 #[.pointer (some ⟨a, 0, none⟩)] w fun e w' => ∃ v, e = .returned v ∧ w'.ownsRow w.heap.size 9 1 v l.length (l.map (fun p => Value.string p.1)) ∧ Fr no w w' := by
  have hc0 : w.cell? ⟨a, 0, none⟩ = some (.map (some m)) := cells_at h.blk 0 _ rfl
  have HI := Lib.hid h
  clear h
  obtain ⟨ml, hm, hrel, _⟩ := HI.out.map
  have hlen : (mapv Prod.fst ml).length = l.length := by rw [← hrel.length]; simp [mapv]
  have hfew := HI.out.few
  obtain ⟨D, hown, hperm, hsize⟩ := hm.owns (P := Try.prog) (k := 9) Try.underlying9 (fun p hp => by
    simp only [mapv, List.mem_map] at hp
    obtain ⟨q, hq, rfl⟩ := hp
    have hg := get_of_mem hrel.nd (show (q.1, q.2.2) ∈ mapv Prod.snd ml from List.mem_map.2 ⟨q, hq, rfl⟩)
    rw [hrel.eq] at hg
    obtain ⟨g1, g2, g3⟩ := HI.out.good _ (get_some_mem hg)
    have := g3.name
    simp only at g2
    rw [← g2] at this
    unfold maxLen; simp only; omega) (by rw [hlen]; unfold maxLen; omega)
  have hperm' : (strKeys D).Perm ((mapv Prod.snd ml).map (fun p => bl p.1)) := by simpa [mapv, List.map_map, Function.comp_def] using hperm
  have Hsz := Lib.hid hsize
  have Hlen := Lib.hid hlen
  clear hsize hlen hperm
  refine (callsIn_wide (n := 6)).1 ?_
  have hfK : Fence.wide.fn 58 := trivial
  have hfS : Fence.wide.fn 57 := trivial
  refine callsIn_of_wp Try.func21 rfl trivial ?_ rfl
  simp only [Try.ntmps21, List.size_toArray, List.length_cons, List.length_nil, Nat.reduceAdd, Nat.reduceSub, Array.replicate_succ, Array.replicate_zero, List.push_toArray, List.append_toArray, List.nil_append, List.cons_append]
  gi_wp2_with (first | (gi_at_call 58; refine (Try.maps_Keys_58 _ _).mono ?_; rintro e w' ⟨rfl, rfl⟩) | (gi_at_call 57; refine (Try.slices_Sorted_keys_57_58 m _ D anyE w hown (by rw [Hsz.out, Hlen.out]; unfold maxLen; omega) (by rw [Hsz.out, Hlen.out]; omega)).mono ?_; rintro e w' ⟨v, ss, rfl, hS, hrow, hnil, hb⟩))
  go_ret
  have hss := sorted_names hrel (hS.trans hperm')
  rw [hss, enc_keysT] at hrow
  have hl : ss.length = l.length := by
    have := (hS.trans hperm').length_eq
    rw [this, List.length_map, hrel.length]
  rw [hl] at hrow
  exact ⟨v, rfl, ownsRow_base_a hrow (by simp), ((Fr.refl no w).alloc _).trans (Fr.below hb no) (fun _ _ q => q)⟩
end Go.Proofs.Ythmjjbgjbcnjmaa
