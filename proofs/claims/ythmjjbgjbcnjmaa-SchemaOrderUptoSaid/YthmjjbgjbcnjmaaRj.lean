import Derived.Test.YthmjjbgjbcnjmaaRi
namespace Go.Proofs.Ythmjjbgjbcnjmaa
open Go.RowKit Go.Hop

theorem RDone.after {w w1 w2 w3 : World} {b g : Nat} {v v1 r : Value} {s2 : DSt} {e : Ending} (h1 : Fr (fun k => k = b ∨ some k = v.ownBlock) w w1) (hv : ∀ q, v1.ownBlock = some q → v.ownBlock = some q ∨ w.heap.size ≤ q) (h2 : Fr (fun k => k = g) w1 w2) (hg : w.heap.size ≤ g)
    (h3 : RDone w2 b v1 r s2 e w3) : RDone w b v r s2 e w3 := by
  obtain ⟨v', q1, q2, q3, q4⟩ := h3
  have h12 := h1.trans h2 (fun i hi q => absurd hi (by subst q; omega))
  refine ⟨v', q1, q2, h12.trans q3 (fun i hi q => ?_), fun q hq => ?_⟩
  · rcases q with q | q
    · exact .inl q
    · rcases hv i q.symm with z | z
      · exact .inr z.symm
      · omega
  · rcases q4 q hq with z | z
    · exact hv q z
    · exact .inr (Nat.le_trans h12.size z)

set_option maxHeartbeats 1000000 in
set_option maxRecDepth 100000 in
theorem rrename_any (b : Nat) (v : Value) (s : DSt) (n1 n2 : ByteArray) (w : World) (h : IsR w b v s) (hn : n1.size ≤ 140737488351232) (hn2 : n2.size ≤ 140737488351232) :
    Calls Try.prog 41 #[.pointer (some ⟨b, 0, none⟩), .string n1, .string n2] w (RDone w b v (.int .i64 (drename s n1 n2).1) (drename s n1 n2).2) := by
  have HI := Lib.hid h
  have hsh := h.ok.short
  clear h
  cases hn1 : named n1 with
  | false =>
    have HR := Lib.hid (show drename s n1 n2 = (10, s) by simp [drename, hn1])
    go_enter Try.func41, Try.ntmps41
    go_wp2_with (go_at_call 74; refine (named_any _ _ (by assumption)).mono ?_; rintro e w' ⟨rfl, rfl⟩)
    go_ret
    rw [HR.out]
    exact RDone.same HI.out (Fr.refl _ _)
  | true =>
  cases hn2' : named n2 with
  | false =>
    have HR := Lib.hid (show drename s n1 n2 = (10, s) by simp [drename, hn2'])
    go_enter Try.func41, Try.ntmps41
    go_wp2_with (go_at_call 74; refine (named_any _ _ (by assumption)).mono ?_; rintro e w' ⟨rfl, rfl⟩)
    go_ret
    rw [HR.out]
    exact RDone.same HI.out (Fr.refl _ _)
  | true =>
  by_cases hk : dknown s n1 = 0
  · obtain ⟨f, hf⟩ := known_there hk
    rcases plI_cases s.files n1 with ⟨i, f', h1, h2, h3, h4, h5⟩ | ⟨h1, h2, h3⟩
    · have hff : f = f' := by rw [hf] at h4; injection h4
      subst hff
      have HK := Lib.hid (show knownI s n1 = (i : Int) by rw [knownI, if_pos hk, h2])
      have Hk := Lib.hid hk
      have H3 := Lib.hid h3
      have hi64 : i ≤ 64 := by have := HI.out.ok.few; omega
      have Hpl := Lib.hid (pl_del h1)
      have Hfa := Lib.hid (show fileAt s n1 = f by simp [fileAt, hf])
      have Hf := Lib.hid hf
      clear hk hf h1 h2 h3 h4
      cases hcg : (chg s).1 with
      | false =>
        have HR := Lib.hid (show drename s n1 n2 = (11, (chg s).2) by simp [drename, dalter, Hk.out, hcg, hn1, hn2'])
        go_enter Try.func41, Try.ntmps41
        go_wp2_with (first | (go_at_call 74; refine (named_any _ _ (by assumption)).mono ?_; rintro e w' ⟨rfl, rfl⟩) | (go_at_call 79; refine (rknown_any b v s n1 _ HI.out hn).mono ?_; rintro e w' ⟨rfl, rfl⟩; rw [HK.out, Hk.out]) | (go_at_call 76; refine (rchange_any b v s _ HI.out.blk hsh).mono ?_; rintro e w1 ⟨rfl, hb1, hf1⟩; have HB := Lib.hid hb1; clear hb1) | fail)
        go_ret
        rw [HR.out]
        exact RDone.same (HI.out.changed hf1 HB.out) (hf1.mono (fun _ _ q => .inl q))
      | true =>
        by_cases hnn : n1 = n2
        · have HR := Lib.hid (show drename s n1 n2 = (0, (chg s).2) by unfold drename dalter; rw [if_neg (by simp [hn1, hn2']), if_pos Hk.out, if_neg (by simp [hcg]), if_pos rfl, if_pos hnn])
          have hbt : (n1.toList == n2.toList) = true := by rw [beq_name]; simpa using hnn
          have HNN := Lib.hid hnn
          clear hnn
          go_enter Try.func41, Try.ntmps41
          go_wp2_with (first | (go_at_call 74; refine (named_any _ _ (by assumption)).mono ?_; rintro e w' ⟨rfl, rfl⟩) | (go_at_call 79; refine (rknown_any b v s n1 _ HI.out hn).mono ?_; rintro e w' ⟨rfl, rfl⟩; rw [HK.out, Hk.out]) | (go_at_call 76; refine (rchange_any b v s _ HI.out.blk hsh).mono ?_; rintro e w1 ⟨rfl, hb1, hf1⟩; have HB := Lib.hid hb1; clear hb1) | fail)
          go_ret
          rw [HR.out]
          exact RDone.same (HI.out.changed hf1 HB.out) (hf1.mono (fun _ _ q => .inl q))
        · have HR := Lib.hid (show drename s n1 n2 = (0, { (chg s).2 with files := sput (del s.files n1) n2 f }) by simp [drename, dalter, Hk.out, hcg, hn1, hn2', hnn, Hfa.out])
          have hbt : (n1.toList == n2.toList) = false := by rw [beq_name]; simpa using hnn
          have HNN := Lib.hid hnn
          have Hfit := Lib.hid (show f.1.size ≤ 262144 ∧ 0 ≤ f.2 ∧ f.2 ≤ f.1.size from HI.out.ok.fit (n1, f) (List.mem_of_getElem? H3.out))
          have Hlen := Lib.hid (show (sput (s.files.take i ++ s.files.drop (i + 1)) n2 f).length ≤ 64 by
            rw [← Hpl.out, len_sput (HI.out.ok.srt.del n1)]
            have q1 := len_del (l := s.files) (by rw [Hf.out]; rfl : (get s.files n1).isSome = true)
            have q2 := HI.out.ok.few
            split <;> omega)
          clear hnn
          obtain ⟨A, c, rfl, hc⟩ := HI.out.form
          go_enter Try.func41, Try.ntmps41
          go_wp2_with (first | (go_at_call 74; refine (named_any _ _ (by assumption)).mono ?_; rintro e w' ⟨rfl, rfl⟩) | (go_at_call 79; refine (rknown_any b _ s n1 _ HI.out hn).mono ?_; rintro e w' ⟨rfl, rfl⟩; rw [HK.out, Hk.out]) | (go_at_call 76; go_loud (refine (rchange_any b _ s _ HI.out.blk hsh).mono ?_; rintro e w1 ⟨rfl, hb1, hf1⟩; have hi1 := HI.out.changed hf1 hb1; have HI1 := Lib.hid hi1; clear hb1; obtain ⟨g, rfl, e0, e1, e2, e3, e4, e5⟩ := hi1.at_ i (n1, f) (by rw [chg_files]; exact H3.out); have c0 : w1.cell? ⟨b, 0, none⟩ = some (.slice (some ⟨g, 0, none⟩) s.files.length c) := cells_at HI1.out.blk 0 _ rfl; clear hi1 e3 e4; simp only at e0 e1 e2)) | (go_at_call 80; go_loud (refine (drop_any b _ _ i _ (HI1.out.later ((Fr.refl no _).alloc (.cells #[.string n1, .string f.1, .int .i64 f.2] 86))) (by rw [chg_files]; exact h5) (by have q := ok_del HI1.out.ok n1; rw [chg_files, Hpl.out] at q; rw [chg_files]; exact q)).mono ?_; intro e w2 hd; obtain ⟨v1, rfl, hd2, hd3, hd4⟩ := hd; have HD := Lib.hid hd2; have hkk := hd3.keep (heap_alloc_at w1 (.cells #[.string n1, .string f.1, .int .i64 f.2] 86)) (fun q => (by have l1 := HI1.out.lt; rcases q with q | q; (· omega); have := l1.2 _ q.symm; omega)); obtain ⟨x0, x1, x2, x3⟩ := cells3 hkk; have x4 := free_at hkk 0; clear hkk; have HD3 := Lib.hid hd3; have HD4 := Lib.hid hd4; clear hd2 hd3 hd4)) | (go_at_call 77; go_loud (refine (put_any b _ _ n2 f.1 f.2 _ (HD.out.keep ((Fr.refl (fun x => x = w1.heap.size) w2).setCell _ _ (fun _ => rfl)) (by have := HI1.out.lt.1; omega) (fun k hk => by rcases HD4.out k hk with z | z; (· have := HI1.out.lt.2 k z; omega); simp at z; omega)) (named_size hn2') Hfit.out (by rw [chg_files]; exact Hlen.out)).mono ?_; intro e w3 hd; obtain ⟨v2, rfl, hd2⟩ := hd; have HE := Lib.hid hd2; clear hd2)) | fail)
          go_ret
          rw [HR.out]
          have hfa := (hf1.mono (T := fun k => k = b ∨ some k = (Value.slice (some ⟨g, 0, none⟩) s.files.length c).ownBlock) (fun _ _ q => .inl q)).alloc (.cells #[.string n1, .string f.1, .int .i64 f.2] 86)
          have hsz := hf1.size
          refine RDone.state (RDone.after (hfa.trans HD3.out (fun _ _ q => q)) (fun q hq => (HD4.out q hq).imp id (fun z => by simp at z; omega)) ((Fr.refl (fun x => x = w1.heap.size) w2).setCell _ _ (fun _ => rfl)) hsz ⟨v2, rfl, HE.out⟩) (by rw [chg_files, Hpl.out])
    · rw [h3] at hf; cases hf
  · have hk' : (dknown s n1 != 0) = true := by simpa using hk
    have HR := Lib.hid (show drename s n1 n2 = (dknown s n1, s) by simp [drename, dalter, hk, hn1, hn2'])
    have HK := Lib.hid (show knownI s n1 = 0 by rw [knownI, if_neg hk])
    clear hk
    go_enter Try.func41, Try.ntmps41
    go_wp2_with (first | (go_at_call 74; refine (named_any _ _ (by assumption)).mono ?_; rintro e w' ⟨rfl, rfl⟩) | (go_at_call 79; refine (rknown_any b v s n1 _ HI.out hn).mono ?_; rintro e w' ⟨rfl, rfl⟩; rw [HK.out]) | fail)
    go_ret
    rw [HR.out]
    exact RDone.same HI.out (Fr.refl _ _)
end Go.Proofs.Ythmjjbgjbcnjmaa
