import Derived.Test.YthmjjbgjbcnjmaaRg
namespace Go.Proofs.Ythmjjbgjbcnjmaa
open Go.RowKit Go.Hop

theorem ok_del {s : DSt} (h : s.Ok) (name : ByteArray) : ({ s with files := del s.files name } : DSt).Ok :=
  ⟨h.srt.del name, Nat.le_trans (sub_del _ _).length_le h.few, fun p hp => h.fit p ((sub_del _ _).subset hp), fun p hp => h.nam p ((sub_del _ _).subset hp), h.short⟩
theorem RDone.eqn {w w' : World} {b : Nat} {v r r' : Value} {s s' : DSt} {e : Ending} (h : RDone w b v r s e w') (hr : e = .returned r → e = .returned r') (hs : s = s') : RDone w b v r' s' e w' := by
  subst hs; obtain ⟨v', q1, q2⟩ := h; exact ⟨v', hr q1, q2⟩

set_option maxHeartbeats 1000000 in
set_option maxRecDepth 100000 in
theorem rremove_any (b : Nat) (v : Value) (s : DSt) (name : ByteArray) (w : World) (h : IsR w b v s) (hn : name.size ≤ 140737488351232) :
    Calls Try.prog 43 #[.pointer (some ⟨b, 0, none⟩), .string name] w (RDone w b v (.int .i64 (dremove s name).1) (dremove s name).2) := by
  have HI := Lib.hid h
  have hsh := h.ok.short
  clear h
  by_cases hk : dknown s name = 0
  · obtain ⟨f, hf⟩ := known_there hk
    rcases plI_cases s.files name with ⟨i, f', h1, h2, h3, h4, h5⟩ | ⟨h1, h2, h3⟩
    · have HK := Lib.hid (show knownI s name = (i : Int) by rw [knownI, if_pos hk, h2])
      have Hk := Lib.hid hk
      have hi64 : i ≤ 64 := by have := HI.out.ok.few; omega
      have Hpl := Lib.hid (pl_del h1)
      clear hk hf h1 h2 h3 h4
      cases hcg : (chg s).1 with
      | false =>
        have HR := Lib.hid (show dremove s name = (11, (chg s).2) by simp [dremove, dalter, Hk.out, hcg])
        go_enter Try.func43, Try.ntmps43
        go_wp2_with (first | (go_at_call 79; refine (rknown_any b v s name _ HI.out hn).mono ?_; rintro e w' ⟨rfl, rfl⟩; rw [HK.out, Hk.out]) | (go_at_call 76; refine (rchange_any b v s _ HI.out.blk hsh).mono ?_; rintro e w1 ⟨rfl, hb1, hf1⟩; have HB := Lib.hid hb1; clear hb1) | fail)
        go_ret
        rw [HR.out]
        exact RDone.same (HI.out.changed hf1 HB.out) (hf1.mono (fun _ _ q => .inl q))
      | true =>
        have HR := Lib.hid (show dremove s name = (0, { (chg s).2 with files := del s.files name }) by simp [dremove, dalter, Hk.out, hcg])
        go_enter Try.func43, Try.ntmps43
        go_wp2_with (first | (go_at_call 79; refine (rknown_any b _ s name _ HI.out hn).mono ?_; rintro e w' ⟨rfl, rfl⟩; rw [HK.out, Hk.out]) | (go_at_call 76; refine (rchange_any b _ s _ HI.out.blk hsh).mono ?_; rintro e w1 ⟨rfl, hb1, hf1⟩; have HI1 := Lib.hid (HI.out.changed hf1 hb1); clear hb1) | (go_at_call 80; refine (drop_any b _ _ i _ HI1.out (by rw [chg_files]; exact h5) (by have q := ok_del HI1.out.ok name; rw [chg_files, Hpl.out] at q; rw [chg_files]; exact q)).mono ?_; intro e w2 hd; obtain ⟨v', rfl, hd2⟩ := hd; have HD := Lib.hid hd2; clear hd2) | fail)
        go_ret
        rw [HR.out]
        exact RDone.state (RDone.before (hf1.mono (fun _ _ q => .inl q)) ⟨v', rfl, HD.out⟩ id) (by rw [chg_files, Hpl.out])
    · rw [h3] at hf; cases hf
  · have hk' : (dknown s name != 0) = true := by simpa using hk
    have HR := Lib.hid (show dremove s name = (dknown s name, s) by simp [dremove, dalter, hk])
    have HK := Lib.hid (show knownI s name = 0 by rw [knownI, if_neg hk])
    clear hk
    go_enter Try.func43, Try.ntmps43
    go_wp2_with (first | (go_at_call 79; refine (rknown_any b v s name _ HI.out hn).mono ?_; rintro e w' ⟨rfl, rfl⟩; rw [HK.out]) | fail)
    go_ret
    rw [HR.out]
    exact RDone.same HI.out (Fr.refl _ _)

set_option maxHeartbeats 1000000 in
set_option maxRecDepth 100000 in
theorem rread_any (b : Nat) (v : Value) (s : DSt) (name : ByteArray) (w : World) (h : IsR w b v s) (hn : name.size ≤ 140737488351232) :
    Calls Try.prog 45 #[.pointer (some ⟨b, 0, none⟩), .string name] w fun e w' => e = .returned (.tuple #[.string (dread s name).1, .int .i64 (dread s name).2]) ∧ Fr no w w' := by
  have HI := Lib.hid h
  by_cases hk : dknown s name = 0
  · obtain ⟨f, hf⟩ := known_there hk
    rcases plI_cases s.files name with ⟨i, f', h1, h2, h3, h4, h5⟩ | ⟨h1, h2, h3⟩
    · have hff : f = f' := by rw [hf] at h4; injection h4
      subst hff
      have HK := Lib.hid (show knownI s name = (i : Int) by rw [knownI, if_pos hk, h2])
      have HR := Lib.hid (show dread s name = (f.1, 0) by simp [dread, hk, fileAt, hf])
      have Hk := Lib.hid hk
      have hi64 : i ≤ 64 := by have := HI.out.ok.few; omega
      obtain ⟨A, c, rfl, hc⟩ := HI.out.form
      obtain ⟨g, rfl, e0, e1, e2, e3, e4, e5⟩ := HI.out.at_ i (name, f) h3
      have c0 : w.cell? ⟨b, 0, none⟩ = some (.slice (some ⟨g, 0, none⟩) s.files.length c) := cells_at HI.out.blk 0 _ rfl
      simp only at e0 e1 e2
      clear hk hf h1 h2 h3 h4 e3 e4 h
      go_enter Try.func45, Try.ntmps45
      go_wp2_with (first | (go_at_call 79; refine (rknown_any b _ s name _ HI.out hn).mono ?_; rintro e w' ⟨rfl, rfl⟩; rw [HK.out, Hk.out]) | fail)
      go_ret2
      exact ⟨by rw [HR.out]; rfl, Fr.refl _ _⟩
    · rw [h3] at hf; cases hf
  · have hk' : (dknown s name != 0) = true := by simpa using hk
    have HR := Lib.hid (show dread s name = (⟨#[]⟩, dknown s name) by simp [dread, hk])
    have HK := Lib.hid (show knownI s name = 0 by rw [knownI, if_neg hk])
    clear hk h
    go_enter Try.func45, Try.ntmps45
    go_wp2_with (first | (go_at_call 79; refine (rknown_any b v s name _ HI.out hn).mono ?_; rintro e w' ⟨rfl, rfl⟩; rw [HK.out]) | fail)
    go_ret2
    exact ⟨by rw [HR.out]; rfl, Fr.refl _ _⟩

set_option maxHeartbeats 1000000 in
theorem rfuse_any (b : Nat) (v : Value) (s : DSt) (n : Int) (w : World) (h : IsR w b v s) (hn : n ≤ 9223372036854775807) :
    Calls Try.prog 47 #[.pointer (some ⟨b, 0, none⟩), .int .i64 n] w (RDone w b v (.int .i64 (dfuse s n).1) (dfuse s n).2) := by
  have hc1 := cells_at h.blk 1 _ rfl
  have hf1 := free_at h.blk 1
  have HI := Lib.hid h
  clear h
  by_cases h0 : n < 0
  · have HR := Lib.hid (show dfuse s n = (1, s) by simp [dfuse, h0])
    go_enter Try.func47, Try.ntmps47
    go_wp2
    go_ret
    rw [HR.out]
    exact RDone.same HI.out (Fr.refl _ _)
  · have HR := Lib.hid (show dfuse s n = (0, { s with fuse := some n.toNat }) by simp [dfuse, h0])
    go_enter Try.func47, Try.ntmps47
    go_wp2
    go_ret
    rw [HR.out]
    obtain ⟨hb, hown, hne, hok⟩ := HI.out
    have hfr : Fr (fun x => x = b) w (w.setCell ⟨b, 1, none⟩ (.int .i64 n)) := (Fr.refl (fun x => x = b) w).setCell ⟨b, 1, none⟩ _ (fun _ => rfl)
    refine RDone.same ⟨?_, hfr.owns hown (fun k hk q => hne (by rw [hk, q])), hne, ⟨hok.srt, hok.few, hok.fit, hok.nam, by simp; omega⟩⟩ (hfr.mono (fun _ _ q => .inl q))
    have h1 := heap_setCell_at hb 1 (.int .i64 n)
    have e : ((n.toNat : Nat) : Int) = n := by omega
    simpa [rblk, leftR, e] using h1

theorem rnew_any (w : World) : Calls Try.prog 10 #[] w fun e w' => e = .returned (.pointer (some ⟨w.heap.size, 0, none⟩)) ∧ IsR w' w.heap.size (.slice none 0 0) DSt.new ∧ Fr no w w' := by
  go_enter Try.func10, Try.ntmps10
  go_wp2
  go_ret
  refine ⟨rfl, ⟨?_, World.ownsRow_nil _ 0 86 3, (fun h => by cases h), DSt.Ok.new⟩, (Fr.refl _ _).alloc _⟩
  exact heap_alloc_at w (.cells #[.slice none 0 0, .int .i64 (-1), .bool false] 78)
end Go.Proofs.Ythmjjbgjbcnjmaa
