import Derived.Test.YthmjjbgjbcnjmaaRd
namespace Go.Proofs.Ythmjjbgjbcnjmaa
open Go.RowKit Go.Hop

theorem pl_del {β : Type} : ∀ {l : List (ByteArray × β)} {k : ByteArray} {i : Nat}, pl l k = some i → del l k = l.take i ++ l.drop (i + 1)
  | [], _, _, h => by simp [pl] at h
  | (a, b) :: t, k, i, h => by
    simp only [pl] at h
    split at h
    · rename_i e; injection h with h; subst h; simp [del, e]
    · rename_i e
      cases hp : pl t k with
      | none => simp [hp] at h
      | some j =>
        simp only [hp, Option.map_some, Option.some.injEq] at h
        subst h
        simp [del, e, pl_del hp]

set_option maxHeartbeats 4000000 in
set_option maxRecDepth 100000 in
theorem drop_any (b : Nat) (v : Value) (s : DSt) (i : Nat) (w : World) (h : IsR w b v s) (hi : i < s.files.length) (hok : ({ s with files := s.files.take i ++ s.files.drop (i + 1) } : DSt).Ok) :
    Calls Try.prog 80 #[.pointer (some ⟨b, 0, none⟩), .int .i64 i] w (RDone w b v (.tuple #[]) { s with files := s.files.take i ++ s.files.drop (i + 1) }) := by
  obtain ⟨A, c, rfl, hc⟩ := h.form
  have hfew := h.ok.few
  obtain ⟨p, hp⟩ : ∃ p, s.files[i]? = some p := ⟨_, List.getElem?_eq_getElem hi⟩
  obtain ⟨g, rfl, _, _, _, _, e4, e5⟩ := h.at_ i p hp
  have hlb := h.lt.1
  have HI := Lib.hid h
  have HRc := Lib.hid (Rc.of_owns h.own (fcells_one _))
  clear h hp e4
  have h0 : w.cell? ⟨b, 0, none⟩ = some (.slice (some ⟨g, 0, none⟩) s.files.length c) := cells_at HI.out.blk 0 _ rfl
  by_cases hlast : i + 1 < s.files.length
  · go_enter Try.func80, Try.ntmps80
    go_wp2_with (first | (at_builtin; refine wp_append rfl (.tmp 5) (.tmp 11) 76 rfl El86 _ _ _ rfl (World.ownsRow_nil _ 0 86 3) _ _ _ rfl (HRc.out.take i (by omega)) (by unfold maxLen; omega) (by omega) (Nat.zero_le _) ?_; intro v1 w1 ho1 hg1 hloc1; obtain ⟨hn1, hv1⟩ := grow_new (Fr.refl no w) (new_nil _) hg1 hloc1; have y0 := hn1.cell h0 id; have HO1 := Lib.hid ho1; have HN1 := Lib.hid hn1; have HV1 := Lib.hid hv1; clear hg1 ho1 hloc1 hn1 hv1) | (at_builtin; refine wp_append rfl (.tmp 14) (.tmp 21) 76 rfl El86 _ _ _ rfl HO1.out _ _ _ rfl (drop_lt (HRc.out.keep HN1.out (fun _ _ z => z)) (i + 1) hlast) (by unfold maxLen; omega) (by omega) (Nat.zero_le _) ?_; intro v3 w3 ho3 hg3 hloc3; obtain ⟨A3, c3, rfl⟩ := owns_slice ho3; obtain ⟨hn3, hv3⟩ := grow_new HN1.out HV1.out hg3 hloc3; have z0 := hn3.cell h0 id; have z1 := free_at (hn3.keep HI.out.blk id) 0; have HO3 := Lib.hid ho3; have HN3 := Lib.hid hn3; have HV3 := Lib.hid hv3; clear hg3 ho3 hloc3 hn3 hv3) | fail)
    refine bodyPost_end (results_none rfl _ _ _) rfl ?_
    have hO := HO3.out
    have hV := HV3.out
    rw [show 0 + i + (s.files.length - (i + 1)) = i + (s.files.length - (i + 1)) by omega] at hO hV
    exact rebuilt' HI.out.blk HN3.out hV hO (by rw [fcells_append, fcells_take, fcells_drop, List.nil_append]) (by simp; omega) rfl rfl hok
  · have hil : i + 1 = s.files.length := by omega
    have HIL := Lib.hid hil
    have hsub : s.files.length - (i + 1) = 0 := by omega
    clear hil
    by_cases hcc : c = i + 1
    · subst hcc
      go_enter Try.func80, Try.ntmps80
      go_wp2_with (first | (at_builtin; refine wp_append rfl (.tmp 5) (.tmp 11) 76 rfl El86 _ _ _ rfl (World.ownsRow_nil _ 0 86 3) _ _ _ rfl (HRc.out.take i (by omega)) (by unfold maxLen; omega) (by omega) (Nat.zero_le _) ?_; intro v1 w1 ho1 hg1 hloc1; obtain ⟨hn1, hv1⟩ := grow_new (Fr.refl no w) (new_nil _) hg1 hloc1; have y0 := hn1.cell h0 id; have HO1 := Lib.hid ho1; have HN1 := Lib.hid hn1; have HV1 := Lib.hid hv1; clear hg1 ho1 hloc1 hn1 hv1) | (at_builtin; refine wp_append rfl (.tmp 14) (.tmp 21) 76 rfl El86 _ _ _ rfl HO1.out _ 0 [] rfl (rc_empty _ _ _ _) (by unfold maxLen; omega) (by omega) (Nat.zero_le _) ?_; intro v3 w3 ho3 hg3 hloc3; obtain ⟨A3, c3, rfl⟩ := owns_slice ho3; obtain ⟨hn3, hv3⟩ := grow_new HN1.out HV1.out hg3 hloc3; have z0 := hn3.cell h0 id; have z1 := free_at (hn3.keep HI.out.blk id) 0; have HO3 := Lib.hid ho3; have HN3 := Lib.hid hn3; have HV3 := Lib.hid hv3; clear hg3 ho3 hloc3 hn3 hv3) | fail)
      refine bodyPost_end (results_none rfl _ _ _) rfl ?_
      have hO := HO3.out
      have hV := HV3.out
      rw [show 0 + i + 0 = i by omega] at hO hV
      exact rebuilt' HI.out.blk HN3.out hV hO (by rw [fcells_append, fcells_take, List.nil_append, List.append_nil, HIL.out, List.drop_length]; simp [fcells]) (by simp; omega) rfl rfl hok
    · have hcc2 : ¬ (c = i + 1) := hcc
      go_enter Try.func80, Try.ntmps80
      go_wp2_with (first | (at_builtin; refine wp_append rfl (.tmp 5) (.tmp 11) 76 rfl El86 _ _ _ rfl (World.ownsRow_nil _ 0 86 3) _ _ _ rfl (HRc.out.take i (by omega)) (by unfold maxLen; omega) (by omega) (Nat.zero_le _) ?_; intro v1 w1 ho1 hg1 hloc1; obtain ⟨hn1, hv1⟩ := grow_new (Fr.refl no w) (new_nil _) hg1 hloc1; have y0 := hn1.cell h0 id; have HO1 := Lib.hid ho1; have HN1 := Lib.hid hn1; have HV1 := Lib.hid hv1; clear hg1 ho1 hloc1 hn1 hv1) | (at_builtin; refine wp_append rfl (.tmp 14) (.tmp 21) 76 rfl El86 _ _ _ rfl HO1.out _ 0 [] rfl (rc_empty _ _ _ _) (by unfold maxLen; omega) (by omega) (Nat.zero_le _) ?_; intro v3 w3 ho3 hg3 hloc3; obtain ⟨A3, c3, rfl⟩ := owns_slice ho3; obtain ⟨hn3, hv3⟩ := grow_new HN1.out HV1.out hg3 hloc3; have z0 := hn3.cell h0 id; have z1 := free_at (hn3.keep HI.out.blk id) 0; have HO3 := Lib.hid ho3; have HN3 := Lib.hid hn3; have HV3 := Lib.hid hv3; clear hg3 ho3 hloc3 hn3 hv3) | fail)
      refine bodyPost_end (results_none rfl _ _ _) rfl ?_
      have hO := HO3.out
      have hV := HV3.out
      rw [show 0 + i + 0 = i by omega] at hO hV
      exact rebuilt' HI.out.blk HN3.out hV hO (by rw [fcells_append, fcells_take, List.nil_append, List.append_nil, HIL.out, List.drop_length]; simp [fcells]) (by simp; omega) rfl rfl hok
end Go.Proofs.Ythmjjbgjbcnjmaa
