import Derived.Test.YthmjjbgjbcnjmaaSf
namespace Go.Proofs.Ythmjjbgjbcnjmaa
open Go.RowKit Go.Hop

/-- one pair of disks, all of whose blocks are newer than W -/
structure One (W : World) (a m b : Nat) (v : Value) (s : DSt) (w : World) : Prop where
  two : Two w a m b v s
  nam : Names s
  new : ∀ k, Four a m b v k → W.heap.size ≤ k
structure Pair (W : World) (a m b a' m' b' : Nat) (w : World) : Prop where
  fr : Fr no W w
  st : ∃ v s v' s', One W a m b v s w ∧ One W a' m' b' v' s' w ∧ ∀ k, Four a m b v k → ¬ Four a' m' b' v' k
theorem Pair.swap {W w : World} {a m b a' m' b' : Nat} (h : Pair W a m b a' m' b' w) : Pair W a' m' b' a m b w := by
  obtain ⟨v, s, v', s', h1, h2, h3⟩ := h.st
  exact ⟨h.fr, v', s', v, s, h2, h1, fun k q q' => h3 k q' q⟩
theorem Pair.later {W w w' : World} {a m b a' m' b' : Nat} (h : Pair W a m b a' m' b' w) (hf : Fr no w w') : Pair W a m b a' m' b' w' := by
  obtain ⟨v, s, v', s', h1, h2, h3⟩ := h.st
  exact ⟨h.fr.trans hf (fun _ _ z => z), v, s, v', s', ⟨h1.two.later hf, h1.nam, h1.new⟩, ⟨h2.two.later hf, h2.nam, h2.new⟩, h3⟩
theorem pair_next {W w w1 : World} {a m b a' m' b' : Nat} {v v' : Value} {s s' : DSt} (hfr : Fr no W w) (h1 : One W a m b v s w) (h2 : One W a' m' b' v' s' w) (h3 : ∀ k, Four a m b v k → ¬ Four a' m' b' v' k) {e : Ending} (hp : StepPost w a m b v s e w1) : Pair W a m b a' m' b' w1 := by
  obtain ⟨_, s1, hn, v1, ht, hf, hv⟩ := hp
  have hfour : ∀ k, Four a m b v1 k → Four a m b v k ∨ w.heap.size ≤ k := by
    rintro k (q | q | q | q)
    · exact .inl (.inl q)
    · exact .inl (.inr (.inl q))
    · exact .inl (.inr (.inr (.inl q)))
    · rcases hv k q.symm with z | z
      · exact .inl (.inr (.inr (.inr z.symm)))
      · exact .inr z
  refine ⟨hfr.trans hf (fun i hi q => absurd (h1.new i q) (by omega)), v1, s1, v', s', ⟨ht, hn h1.nam, fun k q => ?_⟩, ⟨h2.two.keep hf h3, h2.nam, h2.new⟩, fun k q q' => ?_⟩
  · rcases hfour k q with z | z
    · exact h1.new k z
    · exact Nat.le_trans hfr.size z
  · rcases hfour k q with z | z
    · exact h3 k z q'
    · have := h2.two.lt k q'; omega
theorem One.draws {W : World} {a m b : Nat} {v : Value} {s : DSt} {wr : World} (h : One W a m b v s wr) (hfr : Fr no W wr) {dv : Value} {ds : List Int} (hr : Rd encI W dv ds) (hd : ds ≠ [] → ∀ k, dv.ownBlock = some k → k < W.heap.size) : Draws wr a m b v dv ds :=
  ⟨hr.keep hfr (fun _ _ q => q), fun hn k hk => ⟨Nat.lt_of_lt_of_le (hd hn k hk) hfr.size, fun q => absurd (h.new k q) (by have := hd hn k hk; omega)⟩⟩

set_option maxHeartbeats 1000000 in
set_option maxRecDepth 100000 in
theorem two_any (A : Option Addr) (n c : Nat) (W : World) (hn : n ≤ c) (hacts : Acts W A n) (hn2 : n ≤ 4611686018427387903) :
    Calls Try.prog 4 #[.slice A n c] W (AsBefore W (.bool true)) := by
  have HA := Lib.hid hacts
  clear hacts
  have HM := Lib.hid True.intro
  have HM2 := Lib.hid True.intro
  go_enter Try.func4, Try.ntmps4
  go_wp2_with (first | (go_at_call 9; clear HM; (refine (new_any W).mono ?_; rintro e w1 ⟨rfl, hI0, hf0⟩; have HI0 := Lib.hid hI0; have HF0 := Lib.hid hf0; clear hI0 hf0)) | (go_at_call 9; go_loud (refine (new_any w1).mono ?_; rintro e w2 ⟨rfl, hJ0, hf0⟩; have HJ0 := Lib.hid hJ0; have HG0 := Lib.hid hf0; clear hJ0 hf0)) | (go_at_call 10; clear HM2; (refine (rnew_any w2).mono ?_; rintro e w3 ⟨rfl, hI1, hf1⟩; have HI1 := Lib.hid hI1; have HF1 := Lib.hid hf1; clear hI1 hf1)) | (go_at_call 10; go_loud (refine (rnew_any w3).mono ?_; rintro e w4 ⟨rfl, hJ1, hf1⟩; have HJ1 := Lib.hid hJ1; have HG1 := Lib.hid hf1; clear hJ1 hf1)) | fail)
  have hP : Pair W (W.heap.size + 1) W.heap.size w2.heap.size (w1.heap.size + 1) w1.heap.size w3.heap.size w4 := by
    have l0 := HI0.out.lt
    have l1 := HJ0.out.lt
    have l2 := HI1.out.lt.1
    have hd := HI0.out.later ((HG0.out.trans HF1.out (fun _ _ z => z)).trans HG1.out (fun _ _ z => z))
    have hd' := HJ0.out.later (HF1.out.trans HG1.out (fun _ _ z => z))
    have hr := HI1.out.later HG1.out
    have hnm : Names DSt.new := by intro p hp; simp [DSt.new] at hp
    refine ⟨((HF0.out.trans HG0.out (fun _ _ z => z)).trans HF1.out (fun _ _ z => z)).trans HG1.out (fun _ _ z => z), .slice none 0 0, DSt.new, .slice none 0 0, DSt.new, ⟨⟨hd, hr, by omega, by omega, (by intro q; cases q), (by intro q; cases q)⟩, hnm, ?_⟩, ⟨⟨hd', HJ1.out, by omega, by omega, (by intro q; cases q), (by intro q; cases q)⟩, hnm, ?_⟩, ?_⟩
    · rintro k (q | q | q | q)
      · omega
      · omega
      · omega
      · cases q
    · rintro k (q | q | q | q)
      · omega
      · omega
      · omega
      · cases q
    · rintro k (q | q | q | q) (q' | q' | q' | q') <;> first | (cases q) | (cases q') | omega
      all_goals first | omega | cases q | cases q'
  have HP := Lib.hid hP
  clear hP
  generalize w2.heap.size = b at *
  generalize w3.heap.size = b' at *
  generalize w1.heap.size = m' at *
  clear HI0 HF0 HJ0 HG0 HI1 HF1 HJ1 HG1
  go_loopw [7] (fun i wr => ∃ k : Nat, k ≤ n ∧ i = .int .i64 k ∧ Hid (Pair W (W.heap.size + 1) W.heap.size b (m' + 1) m' b' wr)) (fun i _ => n - (intOf i).toNat)
  case atStart => exact ⟨0, Nat.zero_le _, rfl, HP⟩
  case round =>
    clear HP
    obtain ⟨k, hk, rfl, hp⟩ := hrel
    by_cases hgo : k < n ∧ k < 200
    · obtain ⟨hlt, h200⟩ := hgo
      obtain ⟨bA, off, rfl, hbA, u, hu, hcell, hrd, hdv⟩ := HA.out k hlt
      obtain ⟨e0, e1, e2, e3, e4⟩ := hcell.keep hp.out.fr (S := no) id
      obtain ⟨v, s, v', s', h1, h2, h3⟩ := hp.out.st
      have HD := Lib.hid (h1.draws hp.out.fr hrd hdv)
      have HD' := Lib.hid (h2.draws hp.out.fr hrd hdv)
      have H1 := Lib.hid h1
      have H2 := Lib.hid h2
      have H3 := Lib.hid h3
      have HU := Lib.hid hu
      clear hcell hrd hdv h1 h2 h3 hu
      have t1 : decide ((k : Int) < (n : Int)) = true := by simp; omega
      have t2 : decide (k < n) = true := by simp; omega
      have t3 : decide ((k : Int) < 200) = true := by simp; omega
      have t4 : decide (k < 200) = true := by simp; omega
      have p0 : (k : Int).tmod 2 = (k : Int) % 2 := Int.tmod_eq_emod_of_nonneg (by omega)
      rcases (by omega : k % 2 = 0 ∨ k % 2 = 1) with hpar | hpar
      · have p1 : (k : Int) % 2 = 0 := by omega
        go_wp2_with (first | (go_at_call 12; go_loud (refine (step_any _ _ _ v s u _ H1.out.two HU.out HD.out).mono ?_; intro e w3 hsp; have HNX := Lib.hid (pair_next hp.out.fr H1.out H2.out H3.out hsp); obtain ⟨rfl, _⟩ := hsp)) | fail)
        go_roundw
        case rel => exact ⟨k + 1, by omega, by go_num, HNX⟩
        case measure => simp [intOf]; omega
      · have p1 : (k : Int) % 2 = 1 := by omega
        go_wp2_with (first | (go_at_call 12; go_loud (refine (step_any _ _ _ v' s' u _ H2.out.two HU.out HD'.out).mono ?_; intro e w3 hsp; have HNX := Lib.hid (pair_next hp.out.fr H2.out H1.out (fun k q q' => H3.out k q' q) hsp).swap; obtain ⟨rfl, _⟩ := hsp)) | fail)
        go_roundw
        case rel => exact ⟨k + 1, by omega, by go_num, HNX⟩
        case measure => simp [intOf]; omega
    · obtain ⟨v, s, v', s', h1, h2, h3⟩ := hp.out.st
      have H1 := Lib.hid h1
      have H2 := Lib.hid h2
      have HM := Lib.hid True.intro
      clear h1 h2 h3
      have hge : n ≤ k ∨ (k < n ∧ 200 ≤ k) := by omega
      rcases hge with hge | ⟨hlt, hge⟩
      · have t1 : decide ((k : Int) < (n : Int)) = false := by simp; omega
        have t2 : decide (k < n) = false := by simp; omega
        go_wp2_with (first | (go_at_call 13; clear HM; refine (same_any (W.heap.size + 1) W.heap.size b v s _ H1.out.two H1.out.nam).mono ?_; rintro e w5 ⟨rfl, hf5⟩; have HF5 := Lib.hid hf5; clear hf5) | (go_at_call 13; go_loud (refine (same_any (m' + 1) m' b' v' s' _ (H2.out.two.later HF5.out) H2.out.nam).mono ?_; rintro e w6 ⟨rfl, hf6⟩; have HF6 := Lib.hid hf6; clear hf6)) | (go_at_call 14; go_loud (refine (works_any _).mono ?_; rintro e w7 ⟨rfl, hf7⟩)) | fail)
        go_ret
        exact ⟨rfl, ((hp.out.fr.trans HF5.out (fun _ _ z => z)).trans HF6.out (fun _ _ z => z)).trans hf7 (fun _ _ z => z)⟩
      · have t1 : decide ((k : Int) < (n : Int)) = true := by simp; omega
        have t2 : decide (k < n) = true := by simp; omega
        have t3 : decide ((k : Int) < 200) = false := by simp; omega
        have t4 : decide (k < 200) = false := by simp; omega
        go_wp2_with (first | (go_at_call 13; clear HM; refine (same_any (W.heap.size + 1) W.heap.size b v s _ H1.out.two H1.out.nam).mono ?_; rintro e w5 ⟨rfl, hf5⟩; have HF5 := Lib.hid hf5; clear hf5) | (go_at_call 13; go_loud (refine (same_any (m' + 1) m' b' v' s' _ (H2.out.two.later HF5.out) H2.out.nam).mono ?_; rintro e w6 ⟨rfl, hf6⟩; have HF6 := Lib.hid hf6; clear hf6)) | (go_at_call 14; go_loud (refine (works_any _).mono ?_; rintro e w7 ⟨rfl, hf7⟩)) | fail)
        go_ret
        exact ⟨rfl, ((hp.out.fr.trans HF5.out (fun _ _ z => z)).trans HF6.out (fun _ _ z => z)).trans hf7 (fun _ _ z => z)⟩
end Go.Proofs.Ythmjjbgjbcnjmaa
