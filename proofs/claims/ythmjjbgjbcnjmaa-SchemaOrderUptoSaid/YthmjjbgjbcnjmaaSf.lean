import Derived.Test.YthmjjbgjbcnjmaaSe
namespace Go.Proofs.Ythmjjbgjbcnjmaa
open Go.RowKit Go.Hop

/-- one act's cells at an address -/
def Cell5 (w : World) (b o : Nat) (u : Act5) : Prop := w.cell? ⟨b, o, none⟩ = some (.int .i64 u.k) ∧ w.cell? ⟨b, o + 1, none⟩ = some (.string u.name) ∧ w.cell? ⟨b, o + 2, none⟩ = some (.string u.data) ∧ w.cell? ⟨b, o + 3, none⟩ = some (.int .i64 u.n) ∧ w.cell? ⟨b, o + 4, none⟩ = some u.dv
theorem Cell5.keep {S : Nat → Prop} {w w' : World} {b o : Nat} {u : Act5} (h : Cell5 w b o u) (hf : Fr S w w') (hb : ¬ S b) : Cell5 w' b o u := ⟨hf.cell h.1 hb, hf.cell h.2.1 hb, hf.cell h.2.2.1 hb, hf.cell h.2.2.2.1 hb, hf.cell h.2.2.2.2 hb⟩
/-- the acts that came in: n of them -/
def Acts (w : World) (A : Option Addr) (n : Nat) : Prop := ∀ i, i < n → ∃ b off, A = some ⟨b, off, none⟩ ∧ b < w.heap.size ∧ ∃ u : Act5, u.Ok ∧ Cell5 w b (off + i * 5) u ∧ Rd encI w u.dv u.ds ∧ (u.ds ≠ [] → ∀ k, u.dv.ownBlock = some k → k < w.heap.size)
/-- the state between two acts -/
structure Play (W : World) (a m b : Nat) (wr : World) : Prop where
  fr : Fr no W wr
  st : ∃ v s, Two wr a m b v s ∧ Names s ∧ ∀ k, v.ownBlock = some k → W.heap.size ≤ k
theorem Play.next {W : World} {a m b : Nat} {wr : World} (h : Play W a m b wr) (ha : W.heap.size ≤ a) (hm : W.heap.size ≤ m) (hb : W.heap.size ≤ b) {v : Value} {s : DSt} {e : Ending} {w' : World} (h2 : Names s) (h3 : ∀ k, v.ownBlock = some k → W.heap.size ≤ k) (hp : StepPost wr a m b v s e w') : Play W a m b w' := by
  obtain ⟨_, s', hn, v', ht, hf, hv⟩ := hp
  refine ⟨h.fr.trans hf (fun i hi q => ?_), v', s', ht, hn h2, fun k hk => ?_⟩
  · rcases q with q | q | q | q
    · omega
    · omega
    · omega
    · have := h3 i q.symm; omega
  · rcases hv k hk with z | z
    · exact h3 k z
    · exact Nat.le_trans h.fr.size z
theorem Play.later {W : World} {a m b : Nat} {wr w' : World} (h : Play W a m b wr) (hf : Fr no wr w') : Play W a m b w' := by
  obtain ⟨v, s, h1, h2, h3⟩ := h.st
  exact ⟨h.fr.trans hf (fun _ _ z => z), v, s, h1.later hf, h2, h3⟩
theorem Play.draws {W : World} {a m b : Nat} {wr : World} (h : Play W a m b wr) (ha : W.heap.size ≤ a) (hm : W.heap.size ≤ m) (hb : W.heap.size ≤ b) {v dv : Value} {ds : List Int} (h3 : ∀ k, v.ownBlock = some k → W.heap.size ≤ k) (hr : Rd encI W dv ds) (hd : ds ≠ [] → ∀ k, dv.ownBlock = some k → k < W.heap.size) : Draws wr a m b v dv ds := by
  refine ⟨hr.keep h.fr (fun _ _ q => q), fun hn k hk => ⟨Nat.lt_of_lt_of_le (hd hn k hk) h.fr.size, fun q => ?_⟩⟩
  have := hd hn k hk
  rcases q with q | q | q | q
  · omega
  · omega
  · omega
  · have := h3 k q.symm; omega

set_option maxHeartbeats 1000000 in
set_option maxRecDepth 100000 in
theorem plays_any (A : Option Addr) (n c : Nat) (W : World) (hn : n ≤ c) (hacts : Acts W A n) (hn2 : n ≤ 4611686018427387903) :
    Calls Try.prog 3 #[.slice A n c] W (AsBefore W (.bool true)) := by
  have HA := Lib.hid hacts
  clear hacts
  go_enter Try.func3, Try.ntmps3
  go_wp2_with (first | (go_at_call 9; go_loud (refine (new_any _).mono ?_; rintro e w1 ⟨rfl, hI0, hf0⟩; have HI0 := Lib.hid hI0; have HF0 := Lib.hid hf0; clear hI0 hf0)) | (go_at_call 10; go_loud (refine (rnew_any _).mono ?_; rintro e w2 ⟨rfl, hI1, hf1⟩; have HI1 := Lib.hid hI1; have HF1 := Lib.hid hf1; clear hI1 hf1)) | (go_at_call 11; refine (lawnames_any _).mono ?_; rintro e w' ⟨rfl, rfl⟩) | fail)
  have hl := HI0.out.lt
  have hP : Play W (W.heap.size + 1) W.heap.size w1.heap.size w2 := by
    have hd := HI0.out.later HF1.out
    refine ⟨HF0.out.trans HF1.out (fun _ _ z => z), .slice none 0 0, DSt.new, ⟨hd, HI1.out, by omega, by omega, (by intro q; cases q), (by intro q; cases q)⟩, (by intro p hp; simp [DSt.new] at hp), (by intro k q; cases q)⟩
  have HP := Lib.hid hP
  clear hP
  obtain ⟨hl1, hl2⟩ := hl
  generalize hbb : w1.heap.size = b at *
  have hb0 : W.heap.size ≤ b := by omega
  clear hbb hl1 hl2
  go_loopw [5] (fun i wr => ∃ k : Nat, k ≤ n ∧ i = .int .i64 k ∧ Hid (Play W (W.heap.size + 1) W.heap.size b wr)) (fun i _ => n - (intOf i).toNat)
  case atStart => exact ⟨0, Nat.zero_le _, rfl, HP⟩
  case round =>
    clear HP
    obtain ⟨k, hk, rfl, hp⟩ := hrel
    by_cases hgo : k < n ∧ k < 200
    · obtain ⟨hlt, h200⟩ := hgo
      obtain ⟨bA, off, rfl, hbA, u, hu, hcell, hrd, hdv⟩ := HA.out k hlt
      obtain ⟨e0, e1, e2, e3, e4⟩ := hcell.keep hp.out.fr (S := no) id
      obtain ⟨v, s, hT, hN, hv⟩ := hp.out.st
      have hdr := hp.out.draws (by omega) (Nat.le_refl _) hb0 hv hrd hdv
      have HT := Lib.hid hT
      have HN := Lib.hid hN
      have HV := Lib.hid hv
      have HD := Lib.hid hdr
      have HU := Lib.hid hu
      clear hcell hrd hdv hT hN hv hdr hu
      have t1 : decide ((k : Int) < (n : Int)) = true := by simp; omega
      have t2 : decide (k < n) = true := by simp; omega
      have t3 : decide ((k : Int) < 200) = true := by simp; omega
      have t4 : decide (k < 200) = true := by simp; omega
      go_wp2_with (first | (go_at_call 12; go_loud (refine (step_any _ _ _ v s u _ HT.out HU.out HD.out).mono ?_; intro e w3 hsp; have hnext := hp.out.next (by omega) (Nat.le_refl _) hb0 HN.out HV.out hsp; obtain ⟨rfl, _⟩ := hsp; obtain ⟨v3, s3, hT3, hN3, hv3⟩ := hnext.st; have HNX := Lib.hid hnext; have HT3 := Lib.hid hT3; have HN3 := Lib.hid hN3; clear hnext hT3 hN3 hv3)) | (go_at_call 13; go_loud (refine (same_any _ _ _ v3 s3 _ HT3.out HN3.out).mono ?_; rintro e w4 ⟨rfl, hf4⟩; have HF4 := Lib.hid hf4; clear hf4)) | fail)
      go_roundw
      case rel => exact ⟨k + 1, by omega, by go_num, Lib.hid (HNX.out.later HF4.out)⟩
      case measure => simp [intOf]; omega
    · have hge : n ≤ k ∨ (k < n ∧ 200 ≤ k) := by omega
      rcases hge with hge | ⟨hlt, hge⟩
      · have t1 : decide ((k : Int) < (n : Int)) = false := by simp; omega
        have t2 : decide (k < n) = false := by simp; omega
        go_wp2_with (first | (go_at_call 14; go_loud (refine (works_any _).mono ?_; rintro e w4 ⟨rfl, hf4⟩)) | fail)
        go_ret
        exact ⟨rfl, hp.out.fr.trans hf4 (fun _ _ z => z)⟩
      · have t1 : decide ((k : Int) < (n : Int)) = true := by simp; omega
        have t2 : decide (k < n) = true := by simp; omega
        have t3 : decide ((k : Int) < 200) = false := by simp; omega
        have t4 : decide (k < 200) = false := by simp; omega
        go_wp2_with (first | (go_at_call 14; go_loud (refine (works_any _).mono ?_; rintro e w4 ⟨rfl, hf4⟩)) | fail)
        go_ret
        exact ⟨rfl, hp.out.fr.trans hf4 (fun _ _ z => z)⟩
end Go.Proofs.Ythmjjbgjbcnjmaa
