import Derived.Test.YthmjjbgjbcnjmaaRf
namespace Go.Proofs.Ythmjjbgjbcnjmaa
open Go.RowKit Go.Hop

theorem IsR.changed {w w2 : World} {b : Nat} {v : Value} {s : DSt} (h : IsR w b v s) (hf : Fr (fun x => x = b) w w2) (hb : w2.heap[b]? = some (rblk v (chg s).2)) : IsR w2 b v (chg s).2 :=
  ⟨hb, by rw [chg_files]; exact hf.owns h.own (fun k hk q => h.ne (by rw [hk, q])), h.ne, h.ok.chg⟩
theorem RDone.same {w w' : World} {b : Nat} {v r : Value} {s' : DSt} (h : IsR w' b v s') (hf : Fr (fun k => k = b ∨ some k = v.ownBlock) w w') : RDone w b v r s' (.returned r) w' := ⟨v, rfl, h, hf, fun _ h => .inl h⟩
theorem RDone.before {w w1 w2 : World} {b : Nat} {v r r' : Value} {s' : DSt} {e : Ending} (h : Fr (fun k => k = b ∨ some k = v.ownBlock) w w1) (hd : RDone w1 b v r s' e w2) (he : e = .returned r → e = .returned r') : RDone w b v r' s' e w2 := by
  obtain ⟨v', q1, q2, q3, q4⟩ := hd
  exact ⟨v', he q1, q2, h.trans q3 (fun _ _ z => z), fun g hg => (q4 g hg).imp id (fun z => Nat.le_trans h.size z)⟩
theorem RDone.state {w w' : World} {b : Nat} {v r : Value} {s' s'' : DSt} {e : Ending} (h : RDone w b v r s' e w') (hs : s' = s'') : RDone w b v r s'' e w' := hs ▸ h

theorem IsR.set1 {W : World} {b g n c : Nat} {s : DSt} (h : IsR W b (.slice (some ⟨g, 0, none⟩) n c) s) (k : Nat) (p : ByteArray × File) (x : Int) (hk : s.files[k]? = some p) (hok : ({ s with files := s.files.set k (p.1, (p.2.1, x)) } : DSt).Ok) :
    IsR (W.setCell ⟨g, k * 3 + 2, none⟩ (.int .i64 x)) b (.slice (some ⟨g, 0, none⟩) n c) { s with files := s.files.set k (p.1, (p.2.1, x)) } := by
  have hn : n = s.files.length := by
    rcases h.own.2 with ⟨q, _⟩ | ⟨g', cap', cur, q, _⟩
    · cases q
    · injection q
  subst hn
  have hne : b ≠ g := fun q => h.ne (by rw [q]; rfl)
  obtain ⟨hlt, he⟩ := List.getElem?_eq_some_iff.mp hk
  refine ⟨?_, ?_, h.ne, hok⟩
  · rw [Below.heap_setCell _ _ _ _ hne]
    exact h.blk
  · have := owns_set h.own (k * 3 + 2) (.int .i64 x)
    have hc := fcells_set s.files k (p.1, (p.2.1, x)) hlt
    obtain ⟨q0, q1, q2⟩ := fcells_at s.files k p hk
    have e0 : (fcells s.files).set (k * 3) (.string p.1) = fcells s.files := List.ext_getElem? fun j => by
      rw [List.getElem?_set]; split
      · next q => subst q; rw [q0]; split <;> simp_all
      · rfl
    have e1 : (fcells s.files).set (k * 3 + 1) (.string p.2.1) = fcells s.files := List.ext_getElem? fun j => by
      rw [List.getElem?_set]; split
      · next q => subst q; rw [q1]; split <;> simp_all
      · rfl
    dsimp only at hc
    rw [e0, e1] at hc
    rw [hc] at this
    simpa using this
theorem RDone.isr {w : World} {b : Nat} {v : Value} {s s' : DSt} (h : IsR w b v s) (hs : s = s') : IsR w b v s' := hs ▸ h
theorem IsR.drew {w : World} {b : Nat} {v : Value} {s : DSt} (h : IsR w b v s) : IsR w.drew b v s := (World.drew_eq w) ▸ h.later ((Fr.refl no w).drewN 1)

set_option maxHeartbeats 1000000 in
set_option maxRecDepth 100000 in
theorem rsync_any (b : Nat) (v : Value) (s : DSt) (name : ByteArray) (w : World) (h : IsR w b v s) (hn : name.size ≤ 140737488351232) :
    Calls Try.prog 39 #[.pointer (some ⟨b, 0, none⟩), .string name] w (RDone w b v (.int .i64 (dsync s name).1) (dsync s name).2) := by
  have HI := Lib.hid h
  have hsh := h.ok.short
  clear h
  by_cases hk : dknown s name = 0
  · obtain ⟨f, hf⟩ := known_there hk
    rcases plI_cases s.files name with ⟨i, f', h1, h2, h3, h4, h5⟩ | ⟨h1, h2, h3⟩
    · have hff : f = f' := by rw [hf] at h4; injection h4
      subst hff
      have HK := Lib.hid (show knownI s name = (i : Int) by rw [knownI, if_pos hk, h2])
      have Hk := Lib.hid hk
      have H3 := Lib.hid h3
      have hi64 : i ≤ 64 := by have := HI.out.ok.few; omega
      have Hfa := Lib.hid (show fileAt s name = f by simp [fileAt, hf])
      have Hf := Lib.hid hf
      clear hk hf h1 h2 h3 h4
      cases hcg : (chg s).1 with
      | false =>
        have HR := Lib.hid (show dsync s name = (11, (chg s).2) by simp [dsync, dalter, Hk.out, hcg])
        go_enter Try.func39, Try.ntmps39
        go_wp2_with (first | (go_at_call 79; refine (rknown_any b v s name _ HI.out hn).mono ?_; rintro e w' ⟨rfl, rfl⟩; rw [HK.out, Hk.out]) | (go_at_call 76; refine (rchange_any b v s _ HI.out.blk hsh).mono ?_; rintro e w1 ⟨rfl, hb1, hf1⟩; have HB := Lib.hid hb1; clear hb1) | fail)
        go_ret
        rw [HR.out]
        exact RDone.same (HI.out.changed hf1 HB.out) (hf1.mono (fun _ _ q => .inl q))
      | true =>
        have HR := Lib.hid (show dsync s name = (0, { (chg s).2 with files := sput s.files name (f.1, f.1.size) }) by simp [dsync, dalter, Hk.out, hcg, Hfa.out])
        obtain ⟨A, c, rfl, hc⟩ := HI.out.form
        go_enter Try.func39, Try.ntmps39
        go_wp2_with (first | (go_at_call 79; refine (rknown_any b _ s name _ HI.out hn).mono ?_; rintro e w' ⟨rfl, rfl⟩; rw [HK.out, Hk.out]) | (go_at_call 76; refine (rchange_any b _ s _ HI.out.blk hsh).mono ?_; rintro e w1 ⟨rfl, hb1, hf1⟩; have HI1 := Lib.hid (HI.out.changed hf1 hb1); clear hb1) | fail)
        obtain ⟨g, rfl, e0, e1, e2, e3, e4, e5⟩ := HI1.out.at_ i (name, f) (by rw [chg_files]; exact H3.out)
        have c0 : w1.cell? ⟨b, 0, none⟩ = some (.slice (some ⟨g, 0, none⟩) s.files.length c) := cells_at HI1.out.blk 0 _ rfl
        have f2' := e3 (i * 3 + 2)
        have HE := Lib.hid e4
        clear e3 e4
        simp only at e0 e1 e2
        refine wp_region_still_tail 16 (by kernel_rfl) (by kernel_rfl) ?_
        simp only [List.take_succ_cons, List.take_zero, List.drop_succ_cons, List.drop_zero, World.drew_eq]
        repeat still_step
        refine wpStill_nil ?_
        go_wp2_with fail
        go_ret
        rw [HR.out]
        have hsp := sput_at HI.out.ok.srt i (name, f) (f.1, (f.1.size : Int)) H3.out
        have hfit := HI.out.ok.fit (name, f) (List.mem_of_getElem? H3.out)
        have hp1 := HI1.out.set1 i (name, f) f.1.size (by rw [chg_files]; exact H3.out) (ok_put (s := s) HI.out.ok name (f.1, (f.1.size : Int)) ⟨hfit.1, by omega, Int.le_refl _⟩ (by rw [hsp, List.length_set]; exact HI.out.ok.few) _ (by rw [hsp, chg_files]) HI1.out.ok.short (HI.out.ok.nam (name, f) (List.mem_of_getElem? H3.out)))
        refine RDone.same (RDone.isr hp1.drew (by rw [hsp, chg_files])) (((hf1.mono (fun _ _ q => .inl q)).setCell _ _ (fun _ => .inr rfl)).drew)
    · rw [h3] at hf; cases hf
  · have hk' : (dknown s name != 0) = true := by simpa using hk
    have HR := Lib.hid (show dsync s name = (dknown s name, s) by simp [dsync, dalter, hk])
    have HK := Lib.hid (show knownI s name = 0 by rw [knownI, if_neg hk])
    clear hk
    go_enter Try.func39, Try.ntmps39
    go_wp2_with (first | (go_at_call 79; refine (rknown_any b v s name _ HI.out hn).mono ?_; rintro e w' ⟨rfl, rfl⟩; rw [HK.out]) | fail)
    go_ret
    rw [HR.out]
    exact RDone.same HI.out (Fr.refl _ _)
end Go.Proofs.Ythmjjbgjbcnjmaa
