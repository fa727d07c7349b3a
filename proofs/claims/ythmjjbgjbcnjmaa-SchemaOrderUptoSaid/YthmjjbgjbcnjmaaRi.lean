import Derived.Test.YthmjjbgjbcnjmaaRh
namespace Go.Proofs.Ythmjjbgjbcnjmaa
open Go.RowKit Go.Hop

theorem dappend_dapp1 {s : DSt} {name data : ByteArray} (hnm : named name = true) : dappend s name data = dapp1 s (fileAt s name) (get s.files name).isSome name data := by
  unfold dappend dapp1
  rw [hnm]
  cases get s.files name <;> simp

/-- the end of Append: the local file stands in a block newer than w -/
theorem rapp_end {w wp w1 : World} {b : Nat} {v : Value} {s s' : DSt} {name : ByteArray} {f : File} {e : Ending} {w3 : World} {g : Nat} {u : Value} (hs : s' = { (chg s).2 with files := sput (chg s).2.files name f })
    (h0 : Fr no w wp) (h1 : Fr (fun x => x = b) wp w1) (hg : w.heap.size ≤ g)
    (hd : ∃ v', IsR w3 b v' { (chg s).2 with files := sput (chg s).2.files name f } ∧ Fr (fun k => k = b ∨ some k = v.ownBlock) (w1.setCell ⟨g, 1, none⟩ u) w3 ∧ (∀ q, v'.ownBlock = some q → v.ownBlock = some q ∨ (w1.setCell ⟨g, 1, none⟩ u).heap.size ≤ q)) (he : e = .returned (.int .i64 0)) :
    RDone w b v (.int .i64 0) s' e w3 := by
  subst hs he
  obtain ⟨v', q1, q2, q3⟩ := hd
  have hfr : Fr (fun k => k = b ∨ some k = v.ownBlock) w (w1.setCell ⟨g, 1, none⟩ u) := ((h0.mono (fun _ _ q => q.elim)).trans h1 (fun _ _ q => .inl q)).setCell _ _ (fun q => absurd q (by show ¬ g < w.heap.size; omega))
  exact RDone.before hfr ⟨v', rfl, q1, q2, q3⟩ id

set_option maxHeartbeats 1000000 in
set_option maxRecDepth 100000 in
theorem rappend_any (b : Nat) (v : Value) (s : DSt) (name data : ByteArray) (w : World) (h : IsR w b v s) (hn : name.size ≤ 140737488351232) (hd : data.size ≤ 140737488351232) :
    Calls Try.prog 37 #[.pointer (some ⟨b, 0, none⟩), .string name, .string data] w (RDone w b v (.int .i64 (dappend s name data).1) (dappend s name data).2) := by
  cases hnm : named name with
  | false =>
    have HR := Lib.hid (show dappend s name data = (10, s) by simp [dappend, hnm])
    go_enter Try.func37, Try.ntmps37
    go_wp2_with (go_at_call 74; refine (named_any _ _ hn).mono ?_; rintro e w' ⟨rfl, rfl⟩)
    go_ret
    rw [HR.out]
    exact RDone.same h (Fr.refl _ _)
  | true =>
  rw [dappend_dapp1 hnm]
  have HI := Lib.hid h
  have hsh := h.ok.short
  have hfew := h.ok.few
  obtain ⟨A, c, rfl, hc⟩ := h.form
  have c0 : w.cell? ⟨b, 0, none⟩ = some (.slice A s.files.length c) := cells_at h.blk 0 _ rfl
  have hlb := h.lt.1
  have hnb : b ≠ w.heap.size := by omega
  have Hnm := Lib.hid (named_size hnm)
  clear h
  rcases plI_cases s.files name with ⟨i, f, h1, h2, h3, h4, h5⟩ | ⟨h1, h2, h3⟩
  · have hi64 : i ≤ 64 := by omega
    obtain ⟨g, rfl, e0, e1, e2, e3, e4, e5⟩ := HI.out.at_ i (name, f) h3
    have Hfit := Lib.hid (show f.1.size ≤ 262144 ∧ 0 ≤ f.2 ∧ f.2 ≤ f.1.size from HI.out.ok.fit (name, f) (List.mem_of_getElem? h3))
    have hf1 := Hfit.out.1
    have H4 := Lib.hid h4
    have H2 := Lib.hid h2
    rw [show fileAt s name = f by simp [fileAt, h4], show (get s.files name).isSome = true by rw [h4]; rfl]
    simp only at e0 e1 e2 hf1
    have hge : w.heap.size ≠ g := by omega
    clear h1 h2 h3 h4 e3 e4
    by_cases hbig : 262144 < f.1.size + data.size
    · have HR := Lib.hid (show dapp1 s f true name data = (2, s) by simp [dapp1, hbig])
      go_enter Try.func37, Try.ntmps37
      go_wp2_with (first | (go_at_call 74; refine (named_any _ _ hn).mono ?_; rintro e w' ⟨rfl, rfl⟩) | (go_at_call 75; refine (find_any b _ s name _ HI.out).mono ?_; rintro e w' ⟨rfl, rfl⟩; rw [H2.out]) | fail)
      go_ret
      rw [HR.out]
      have hfr := (Fr.refl no w).alloc (.cells #[.string name, .string f.1, .int .i64 f.2] 86)
      exact RDone.same (HI.out.later hfr) (hfr.mono (fun _ _ q => q.elim))
    · have hfr := (Fr.refl no w).alloc (.cells #[.string name, .string f.1, .int .i64 f.2] 86)
      have hk := heap_alloc_at w (.cells #[.string name, .string f.1, .int .i64 f.2] 86)
      have HFR := Lib.hid hfr
      have HK := Lib.hid hk
      clear hfr hk
      cases hcg : (chg s).1 with
      | false =>
        have HR := Lib.hid (show dapp1 s f true name data = (11, (chg s).2) by simp [dapp1, hbig, hcg])
        go_enter Try.func37, Try.ntmps37
        go_wp2_with (first | (go_at_call 74; refine (named_any _ _ hn).mono ?_; rintro e w' ⟨rfl, rfl⟩) | (go_at_call 75; refine (find_any b _ s name _ HI.out).mono ?_; rintro e w' ⟨rfl, rfl⟩; rw [H2.out]) | (go_at_call 76; refine (rchange_any b _ s _ (HI.out.later HFR.out).blk hsh).mono ?_; rintro e w1 ⟨rfl, hb1, hf1⟩; have HB := Lib.hid hb1; clear hb1) | fail)
        go_ret
        rw [HR.out]
        exact RDone.same ((HI.out.later HFR.out).changed hf1 HB.out) ((HFR.out.mono (fun _ _ q => q.elim)).trans hf1 (fun _ _ q => .inl q))
      | true =>
        have HR := Lib.hid (show dapp1 s f true name data = (0, { (chg s).2 with files := sput s.files name (f.1 ++ data, f.2) }) by simp [dapp1, hbig, hcg])
        have Hl := Lib.hid (show (sput (chg s).2.files name (f.1 ++ data, f.2)).length ≤ 64 by rw [chg_files, len_sput HI.out.ok.srt, H4.out]; exact hfew)
        go_enter Try.func37, Try.ntmps37
        go_wp2_with (first | (go_at_call 74; refine (named_any _ _ hn).mono ?_; rintro e w' ⟨rfl, rfl⟩) | (go_at_call 75; refine (find_any b _ s name _ HI.out).mono ?_; rintro e w' ⟨rfl, rfl⟩; rw [H2.out]) | (go_at_call 76; refine (rchange_any b _ s _ (HI.out.later HFR.out).blk hsh).mono ?_; rintro e w1 ⟨rfl, hb1, hfc⟩; have HI1 := Lib.hid ((HI.out.later HFR.out).changed hfc hb1); clear hb1; obtain ⟨x0, x1, x2, x3⟩ := cells3 (hfc.keep HK.out (fun q => hnb q.symm)); have x4 := free_at (hfc.keep HK.out (fun q => hnb q.symm)) 1; have HFC := Lib.hid hfc; clear hfc) | (go_at_call 77; go_loud (refine (put_any b _ (chg s).2 name _ f.2 _ (HI1.out.keep ((Fr.refl (fun x => x = w.heap.size) w1).setCell _ _ (fun _ => rfl)) hnb (fun k hk => by have := HI.out.lt.2 k hk; omega)) Hnm.out (by rw [ByteArray.size_append]; have := Hfit.out; omega) Hl.out).mono ?_; intro e w2 hd; obtain ⟨v', rfl, hd2⟩ := hd; have HD := Lib.hid hd2; clear hd2)) | fail)
        go_ret
        rw [HR.out]
        exact rapp_end (by rw [chg_files]) HFR.out HFC.out (Nat.le_refl _) ⟨v', HD.out⟩ rfl
  · have H3 := Lib.hid h3
    have H2 := Lib.hid h2
    rw [show fileAt s name = (⟨#[]⟩, 0) by simp [fileAt, h3], show (get s.files name).isSome = false by rw [h3]; rfl]
    clear h1 h2 h3
    have hz0 : (⟨#[]⟩ : ByteArray).size = 0 := rfl
    by_cases hbig : 262144 < data.size
    · have HR := Lib.hid (show dapp1 s (⟨#[]⟩, 0) false name data = (2, s) by simp [dapp1, hz0, hbig])
      go_enter Try.func37, Try.ntmps37
      go_wp2_with (first | (go_at_call 74; refine (named_any _ _ hn).mono ?_; rintro e w' ⟨rfl, rfl⟩) | (go_at_call 75; refine (find_any b _ s name _ HI.out).mono ?_; rintro e w' ⟨rfl, rfl⟩; rw [H2.out]) | fail)
      go_ret
      rw [HR.out]
      have hfr := (Fr.refl no w).alloc (.cells #[.string name, .string ⟨#[]⟩, .int .i64 0] 86)
      exact RDone.same (HI.out.later hfr) (hfr.mono (fun _ _ q => q.elim))
    · by_cases hfull : 64 ≤ s.files.length
      · have HR := Lib.hid (show dapp1 s (⟨#[]⟩, 0) false name data = (2, s) by simp [dapp1, hfull])
        go_enter Try.func37, Try.ntmps37
        go_wp2_with (first | (go_at_call 74; refine (named_any _ _ hn).mono ?_; rintro e w' ⟨rfl, rfl⟩) | (go_at_call 75; refine (find_any b _ s name _ HI.out).mono ?_; rintro e w' ⟨rfl, rfl⟩; rw [H2.out]) | fail)
        go_ret
        rw [HR.out]
        have hfr := (Fr.refl no w).alloc (.cells #[.string name, .string ⟨#[]⟩, .int .i64 0] 86)
        exact RDone.same (HI.out.later hfr) (hfr.mono (fun _ _ q => q.elim))
      · have HFR := Lib.hid ((Fr.refl no w).alloc (.cells #[.string name, .string ⟨#[]⟩, .int .i64 0] 86))
        have HK := Lib.hid (heap_alloc_at w (.cells #[.string name, .string ⟨#[]⟩, .int .i64 0] 86))
        cases hcg : (chg s).1 with
        | false =>
          have HR := Lib.hid (show dapp1 s (⟨#[]⟩, 0) false name data = (11, (chg s).2) by simp [dapp1, hz0, hbig, hfull, hcg])
          go_enter Try.func37, Try.ntmps37
          go_wp2_with (first | (go_at_call 74; refine (named_any _ _ hn).mono ?_; rintro e w' ⟨rfl, rfl⟩) | (go_at_call 75; refine (find_any b _ s name _ HI.out).mono ?_; rintro e w' ⟨rfl, rfl⟩; rw [H2.out]) | (go_at_call 76; refine (rchange_any b _ s _ (HI.out.later HFR.out).blk hsh).mono ?_; rintro e w1 ⟨rfl, hb1, hf1⟩; have HB := Lib.hid hb1; clear hb1) | fail)
          go_ret
          rw [HR.out]
          exact RDone.same ((HI.out.later HFR.out).changed hf1 HB.out) ((HFR.out.mono (fun _ _ q => q.elim)).trans hf1 (fun _ _ q => .inl q))
        | true =>
          have HR := Lib.hid (show dapp1 s (⟨#[]⟩, 0) false name data = (0, { (chg s).2 with files := sput s.files name (⟨#[]⟩ ++ data, 0) }) by simp [dapp1, hz0, hbig, hfull, hcg])
          have Hl := Lib.hid (show (sput (chg s).2.files name (⟨#[]⟩ ++ data, (0 : Int))).length ≤ 64 by rw [chg_files, len_sput HI.out.ok.srt, H3.out]; simp; omega)
          go_enter Try.func37, Try.ntmps37
          go_wp2_with (first | (go_at_call 74; refine (named_any _ _ hn).mono ?_; rintro e w' ⟨rfl, rfl⟩) | (go_at_call 75; refine (find_any b _ s name _ HI.out).mono ?_; rintro e w' ⟨rfl, rfl⟩; rw [H2.out]) | (go_at_call 76; refine (rchange_any b _ s _ (HI.out.later HFR.out).blk hsh).mono ?_; rintro e w1 ⟨rfl, hb1, hfc⟩; have HI1 := Lib.hid ((HI.out.later HFR.out).changed hfc hb1); clear hb1; obtain ⟨x0, x1, x2, x3⟩ := cells3 (hfc.keep HK.out (fun q => hnb q.symm)); have x4 := free_at (hfc.keep HK.out (fun q => hnb q.symm)) 1; have HFC := Lib.hid hfc; clear hfc) | (go_at_call 77; go_loud (refine (put_any b _ (chg s).2 name _ 0 _ (HI1.out.keep ((Fr.refl (fun x => x = w.heap.size) w1).setCell _ _ (fun _ => rfl)) hnb (fun k hk => by have := HI.out.lt.2 k hk; omega)) Hnm.out (by rw [ByteArray.size_append]; have e : (⟨#[]⟩ : ByteArray).size = 0 := rfl; omega) Hl.out).mono ?_; intro e w2 hd; obtain ⟨v', rfl, hd2⟩ := hd; have HD := Lib.hid hd2; clear hd2)) | fail)
          go_ret
          rw [HR.out]
          exact rapp_end (by rw [chg_files]) HFR.out HFC.out (Nat.le_refl _) ⟨v', HD.out⟩ rfl
end Go.Proofs.Ythmjjbgjbcnjmaa
