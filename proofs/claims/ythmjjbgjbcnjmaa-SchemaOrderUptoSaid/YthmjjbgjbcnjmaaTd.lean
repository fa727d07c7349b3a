import Derived.Test.YthmjjbgjbcnjmaaTc
import Derived.Deep.CutRange
import Derived.Deep.CutBlock
namespace Go.Proofs.Ythmjjbgjbcnjmaa
open Go.RowKit Go.Hop

/-- a schema's parts are of sizes that fit a machine -/
structure TabFit (t : Tab) : Prop where
  name : t.name.size ≤ 140737488351232
  cols : t.cols.length ≤ 4398046511104
  key : -9223372036854775808 ≤ t.key ∧ t.key ≤ 9223372036854775807
  idx : t.idx.length ≤ 4398046511104
  colf : ∀ p ∈ t.cols, p.1.size ≤ 140737488351232 ∧ -9223372036854775808 ≤ p.2 ∧ p.2 ≤ 9223372036854775807
  idxf : ∀ x ∈ t.idx, x.name.size ≤ 140737488351232 ∧ x.cols.length ≤ 4398046511104 ∧ ∀ n ∈ x.cols, -9223372036854775808 ≤ n ∧ n ≤ 9223372036854775807
def ok0 (t : Tab) : Bool := namedS t.name && inside t.cols.length 1 32 && inside t.key 1 t.cols.length && decide (t.idx.length ≤ 8)
def ok1 (t : Tab) : Bool := ok0 t && distB (t.cols.map Prod.fst) && distB (t.idx.map Ix.name)
/-- what Check answers -/
def errT (t : Tab) : Int := if checkT t = true then 0 else 140
def kindOk (c : Col) : Bool := inside c.2 1 5
def ixOk (many : Nat) (x : Ix) : Bool := inside x.cols.length 1 32 && x.cols.all (fun n => inside n 0 ((many : Int) - 1))
theorem checkT_eq (t : Tab) : checkT t = (ok1 t && t.cols.all kindOk && t.idx.all (ixOk t.cols.length)) := rfl
theorem cells4 {w : World} {b t : Nat} {u v x y : Value} (h : w.heap[b]? = some (.cells #[u, v, x, y] t (0, 0))) :
    w.cell? ⟨b, 0, none⟩ = some u ∧ w.cell? ⟨b, 1, none⟩ = some v ∧ w.cell? ⟨b, 2, none⟩ = some x ∧ w.cell? ⟨b, 3, none⟩ = some y ∧ b < w.heap.size :=
  ⟨cells_at h 0 _ rfl, cells_at h 1 _ rfl, cells_at h 2 _ rfl, cells_at h 3 _ rfl, heap_lt h⟩

theorem IdxAt.forms {w : World} {K : Nat → Prop} {v : Value} {l : List Ix} {svs : List Value} (h : IdxAt w K v l svs) : ∀ u ∈ svs, ∃ A n c, u = Value.slice A n c := by
  intro u hu
  obtain ⟨j, hj⟩ := List.getElem?_of_mem hu
  have hjl : j < l.length := by have := (List.getElem?_eq_some_iff.1 hj).1; rw [h.len] at this; exact this
  obtain ⟨A, c, e, _⟩ := (h.each j _ u (List.getElem?_eq_getElem hjl) hj).rc.form
  exact ⟨A, _, c, e⟩
theorem cell_lt' {w : World} {b o : Nat} {v : Value} (h : w.cell? ⟨b, o, none⟩ = some v) : b < w.heap.size := by
  rcases Nat.lt_or_ge b w.heap.size with q | q
  · exact q
  · have : w.heap[b]? = none := by simp; omega
    simp [World.cell?, this] at h

set_option maxHeartbeats 4000000 in
set_option maxRecDepth 100000 in
theorem check_any (K : Nat → Prop) (val : Value) (t : Tab) (w : World) (h : TabAt w K val t) (hf : TabFit t) : Calls Try.prog 27 #[val] w (AsBefore w (.int .i64 (errT t))) := by
  obtain ⟨vc, vi, svs, rfl, hc, hi⟩ := h.ex
  have HC := Lib.hid hc
  have HI := Lib.hid hi
  have HF := Lib.hid hf
  obtain ⟨Ac, cc, rfl, hcc⟩ := hc.rc.form
  obtain ⟨Ai, ci, rfl, hci⟩ := hi.row.rc.form
  have f1 := hf.name
  have f2 := hf.cols
  have f3 := hf.idx
  clear h hc hi hf
  go_enter Try.func27, Try.ntmps27
  go_upto_region 3 with fail
  go_cut [5] from 12 (fun u5 wc => u5 = .bool (ok0 t) ∧ Fr no (w.alloc (.cells #[.string t.name, .slice Ac t.cols.length cc, .int .i64 t.key, .slice Ai t.idx.length ci] 41)) wc)
  case first =>
    have hok := Lib.hid (show ok0 t = (namedS t.name && inside t.cols.length 1 32 && inside t.key 1 t.cols.length && decide (t.idx.length ≤ 8)) from rfl)
    cases hn : namedS t.name with
    | false =>
      have HO := Lib.hid (show ok0 t = false by rw [hok.out, hn]; rfl)
      go_wp2_with (first | (go_at_call 64; go_loud (refine (namedS_any _ _ f1).mono ?_; rintro e w1 ⟨rfl, hf1⟩; rw [hn]; obtain ⟨x0, x1, x2, x3, x4⟩ := cells4 (hf1.keep (heap_alloc_at w _) id); have HF1 := Lib.hid hf1; clear hf1)) | (go_at_call 63; go_loud (refine (c63_any _ _ _ _).mono ?_; rintro e w' ⟨rfl, rfl⟩; simp only [e1, e2])) | fail)
      go_meet
      case rel => exact ⟨by rw [HO.out], HF1.out⟩
    | true =>
    cases e1 : inside t.cols.length 1 32 with
    | false =>
      have e2 : True := trivial
      have HO := Lib.hid (show ok0 t = false by rw [hok.out, hn, e1]; rfl)
      go_wp2_with (first | (go_at_call 64; go_loud (refine (namedS_any _ _ f1).mono ?_; rintro e w1 ⟨rfl, hf1⟩; rw [hn]; obtain ⟨x0, x1, x2, x3, x4⟩ := cells4 (hf1.keep (heap_alloc_at w _) id); have HF1 := Lib.hid hf1; clear hf1)) | (go_at_call 63; go_loud (refine (c63_any _ _ _ _).mono ?_; rintro e w' ⟨rfl, rfl⟩; simp only [e1, e2])) | fail)
      go_meet
      case rel => exact ⟨by rw [HO.out], HF1.out⟩
    | true =>
    cases e2 : inside t.key 1 t.cols.length with
    | false =>
      have HO := Lib.hid (show ok0 t = false by rw [hok.out, hn, e1, e2]; rfl)
      go_wp2_with (first | (go_at_call 64; go_loud (refine (namedS_any _ _ f1).mono ?_; rintro e w1 ⟨rfl, hf1⟩; rw [hn]; obtain ⟨x0, x1, x2, x3, x4⟩ := cells4 (hf1.keep (heap_alloc_at w _) id); have HF1 := Lib.hid hf1; clear hf1)) | (go_at_call 63; go_loud (refine (c63_any _ _ _ _).mono ?_; rintro e w' ⟨rfl, rfl⟩; simp only [e1, e2])) | fail)
      go_meet
      case rel => exact ⟨by rw [HO.out], HF1.out⟩
    | true =>
    by_cases e3 : t.idx.length ≤ 8
    · have HO := Lib.hid (show ok0 t = true by rw [hok.out, hn, e1, e2, decide_eq_true e3]; rfl)
      have e4 : decide ((t.idx.length : Int) ≤ 8) = true := by simp; omega
      go_wp2_with (first | (go_at_call 64; go_loud (refine (namedS_any _ _ f1).mono ?_; rintro e w1 ⟨rfl, hf1⟩; rw [hn]; obtain ⟨x0, x1, x2, x3, x4⟩ := cells4 (hf1.keep (heap_alloc_at w _) id); have HF1 := Lib.hid hf1; clear hf1)) | (go_at_call 63; go_loud (refine (c63_any _ _ _ _).mono ?_; rintro e w' ⟨rfl, rfl⟩; simp only [e1, e2])) | fail)
      go_meet
      case rel => exact ⟨by rw [HO.out], HF1.out⟩
    · have HO := Lib.hid (show ok0 t = false by rw [hok.out, hn, e1, e2, decide_eq_false e3]; rfl)
      have e4 : decide ((t.idx.length : Int) ≤ 8) = false := by simp; omega
      go_wp2_with (first | (go_at_call 64; go_loud (refine (namedS_any _ _ f1).mono ?_; rintro e w1 ⟨rfl, hf1⟩; rw [hn]; obtain ⟨x0, x1, x2, x3, x4⟩ := cells4 (hf1.keep (heap_alloc_at w _) id); have HF1 := Lib.hid hf1; clear hf1)) | (go_at_call 63; go_loud (refine (c63_any _ _ _ _).mono ?_; rintro e w' ⟨rfl, rfl⟩; simp only [e1, e2])) | fail)
      go_meet
      case rel => exact ⟨by rw [HO.out], HF1.out⟩
  case rest =>
    obtain ⟨rfl, hfr⟩ := hcut
    obtain ⟨x0, x1, x2, x3, x4⟩ := cells4 (hfr.keep (heap_alloc_at w _) id)
    have HFR := Lib.hid hfr
    have HW : Fr no w wc := ((Fr.refl no w).alloc _).trans HFR.out (fun _ _ z => z)
    have HW := Lib.hid HW
    clear hfr
    go_upto_region 4 with fail
    go_cut [5] from 36 (fun u5 wd => u5 = .bool (ok1 t) ∧ Fr no wc wd)
    case first =>
      have hok := Lib.hid (show ok1 t = (ok0 t && distB (t.cols.map Prod.fst) && distB (t.idx.map Ix.name)) from rfl)
      cases e0 : ok0 t with
      | false =>
        have HO := Lib.hid (show ok1 t = false by rw [hok.out, e0]; rfl)
        go_wp2_with fail
        go_meet
        case rel => exact ⟨by rw [HO.out], Fr.refl _ _⟩
      | true =>
      cases e1 : distB (t.cols.map Prod.fst) with
      | false =>
        have HO := Lib.hid (show ok1 t = false by rw [hok.out, e0, e1]; rfl)
        go_wp2_with (first | (go_at_call 65; go_loud (refine (distinct65_any _ t.cols _ (HC.out.keep HW.out (fun _ _ _ z => z)).rc (by omega) (fun p hp => (HF.out.colf p hp).1)).mono ?_; rintro e wd ⟨rfl, hfa⟩; rw [e1]; have y3 := hfa.cell x3 id; have HFA := Lib.hid hfa; clear hfa)) | fail)
        go_meet
        case rel => exact ⟨by rw [HO.out], HFA.out⟩
      | true =>
      cases e2 : distB (t.idx.map Ix.name) with
      | false =>
        have HO := Lib.hid (show ok1 t = false by rw [hok.out, e0, e1, e2]; rfl)
        go_wp2_with (first | (go_at_call 65; go_loud (refine (distinct65_any _ t.cols _ (HC.out.keep HW.out (fun _ _ _ z => z)).rc (by omega) (fun p hp => (HF.out.colf p hp).1)).mono ?_; rintro e wd ⟨rfl, hfa⟩; rw [e1]; have y3 := hfa.cell x3 id; have HFA := Lib.hid hfa; clear hfa)) | (go_at_call 67; go_loud (refine (distinct67_any _ t.idx svs _ ((HI.out.row.keep HW.out (fun _ _ _ z => z)).keep HFA.out (fun _ _ _ z => z)).rc (by omega) (fun p hp => (HF.out.idxf p hp).1) HI.out.len HI.out.forms).mono ?_; rintro e we ⟨rfl, hfb⟩; rw [e2]; have HFB := Lib.hid hfb; clear hfb)) | fail)
        go_meet
        case rel => exact ⟨by rw [HO.out], HFA.out.trans HFB.out (fun _ _ z => z)⟩
      | true =>
        have HO := Lib.hid (show ok1 t = true by rw [hok.out, e0, e1, e2]; rfl)
        go_wp2_with (first | (go_at_call 65; go_loud (refine (distinct65_any _ t.cols _ (HC.out.keep HW.out (fun _ _ _ z => z)).rc (by omega) (fun p hp => (HF.out.colf p hp).1)).mono ?_; rintro e wd ⟨rfl, hfa⟩; rw [e1]; have y3 := hfa.cell x3 id; have HFA := Lib.hid hfa; clear hfa)) | (go_at_call 67; go_loud (refine (distinct67_any _ t.idx svs _ ((HI.out.row.keep HW.out (fun _ _ _ z => z)).keep HFA.out (fun _ _ _ z => z)).rc (by omega) (fun p hp => (HF.out.idxf p hp).1) HI.out.len HI.out.forms).mono ?_; rintro e we ⟨rfl, hfb⟩; rw [e2]; have HFB := Lib.hid hfb; clear hfb)) | fail)
        go_meet
        case rel => exact ⟨by rw [HO.out], HFA.out.trans HFB.out (fun _ _ z => z)⟩
    case rest =>
      obtain ⟨rfl, hfr2⟩ := hcut
      replace x1 := hfr2.cell x1 id
      replace x3 := hfr2.cell x3 id
      have hgt := hfr2.size
      have HW2 := Lib.hid (HW.out.trans hfr2 (fun _ _ z => z))
      have HC2 := Lib.hid (HC.out.keep HW2.out (fun _ _ _ z => z))
      clear hfr2 x0 x2 HFR
      go_wp2_with fail
      go_loopw [50, 5] (fun u50 u5 wr => ∃ k : Nat, u50 = .int .i64 k ∧ u5 = .bool (ok1 t && (t.cols.take k).all kindOk) ∧ k ≤ t.cols.length ∧ Fr no wc wr) (fun i _ _ => t.cols.length - (intOf i).toNat)
      case atStart => exact ⟨0, rfl, by simp, Nat.zero_le _, Fr.refl _ _⟩
      case round =>
        obtain ⟨k, rfl, rfl, hk, hfw⟩ := hrel
        by_cases hlt : k < t.cols.length
        · obtain ⟨p, hp⟩ : ∃ p, t.cols[k]? = some p := ⟨_, List.getElem?_eq_getElem hlt⟩
          obtain ⟨q1, q2⟩ := ccells_at t.cols k p hp
          obtain ⟨b, off, rfl, e0⟩ := HC2.out.rc.at_ q1
          obtain ⟨b', off', hb', e1⟩ := HC2.out.rc.at_ q2
          obtain ⟨rfl, rfl⟩ : b = b' ∧ off = off' := by injection hb' with hb'; injection hb' with z1 z2; exact ⟨z1, z2⟩
          replace e0 := hfw.cell e0 id
          replace e1 := hfw.cell e1 id
          rw [← Nat.add_assoc] at e1
          have HN := Lib.hid (show (t.cols.take (k + 1)).all kindOk = ((t.cols.take k).all kindOk && kindOk p) by rw [List.take_add_one, hp]; simp)
          have t1 : decide ((k : Int) < (t.cols.length : Int)) = true := by simp; omega
          have t2 : decide (k < t.cols.length) = true := by simp; omega
          have HFW := Lib.hid hfw
          clear hb' q1 q2 hp hfw
          cases hB : (ok1 t && (t.cols.take k).all kindOk) with
          | false =>
            go_wp2_with fail
            go_roundw
            case rel => exact ⟨k + 1, by go_num, by rw [HN.out, ← Bool.and_assoc, hB]; rfl, by omega, HFW.out.alloc _⟩
            case measure => simp [intOf]; omega
          | true =>
            go_wp2_with (first | (go_at_call 63; refine (c63_any _ _ _ _).mono ?_; rintro e w' ⟨rfl, rfl⟩) | fail)
            go_roundw
            case rel => exact ⟨k + 1, by go_num, by rw [HN.out, ← Bool.and_assoc, hB]; rfl, by omega, HFW.out.alloc _⟩
            case measure => simp [intOf]; omega
        · obtain rfl : k = t.cols.length := by omega
          have t1 : decide ((t.cols.length : Int) < (t.cols.length : Int)) = false := by simp
          have t2 : decide (t.cols.length < t.cols.length) = false := by simp
          rw [List.take_length]
          replace x3 := hfw.cell x3 id
          have hgt2 := hfw.size
          have HW3 := Lib.hid (HW2.out.trans hfw (fun _ _ z => z))
          generalize hA : (ok1 t && t.cols.all kindOk) = okA
          have HA := Lib.hid hA
          have Hn := Lib.hid (fun x hx => (HF.out.idxf x hx).2.2)
          clear hA hfw
          go_wp2_with fail
          go_loopw [65, 5] (fun u65 u5 wr2 => ∃ k : Nat, u65 = .int .i64 k ∧ u5 = .bool (okA && (t.idx.take k).all (ixOk t.cols.length)) ∧ k ≤ t.idx.length ∧ Fr no wr wr2) (fun i _ _ => t.idx.length - (intOf i).toNat)
          case atStart => exact ⟨0, rfl, by simp, Nat.zero_le _, Fr.refl _ _⟩
          case round =>
            rename World => wr2
            obtain ⟨k, rfl, rfl, hk, hfw⟩ := hrel
            by_cases hlt : k < t.idx.length
            · obtain ⟨x, hx⟩ : ∃ x, t.idx[k]? = some x := ⟨_, List.getElem?_eq_getElem hlt⟩
              obtain ⟨sv, hsv⟩ : ∃ sv, svs[k]? = some sv := ⟨_, List.getElem?_eq_getElem (by rw [HI.out.len]; omega)⟩
              obtain ⟨q1, q2, q3⟩ := icells_at t.idx svs k x sv hx hsv
              have hs0 := (((HI.out.each k x sv hx hsv).keep HW3.out (fun _ _ _ z => z)).keep hfw (fun _ _ _ z => z))
              obtain ⟨As, cs, rfl, hcs⟩ := hs0.rc.form
              have HS := Lib.hid hs0
              have HR2 := (HI.out.row.rc.keep HW3.out (fun _ _ z => z))
              obtain ⟨b, off, rfl, e0⟩ := HR2.at_ q1
              obtain ⟨b', off', hb', e1⟩ := HR2.at_ q2
              obtain ⟨rfl, rfl⟩ : b = b' ∧ off = off' := by injection hb' with hb'; injection hb' with z1 z2; exact ⟨z1, z2⟩
              obtain ⟨b', off', hb', e2⟩ := HR2.at_ q3
              obtain ⟨rfl, rfl⟩ : b = b' ∧ off = off' := by injection hb' with hb'; injection hb' with z1 z2; exact ⟨z1, z2⟩
              replace e0 := hfw.cell e0 id
              replace e1 := hfw.cell e1 id
              replace e2 := hfw.cell e2 id
              rw [← Nat.add_assoc] at e1 e2
              have HK := Lib.hid (show (t.idx.take (k + 1)).all (ixOk t.cols.length) = ((t.idx.take k).all (ixOk t.cols.length) && ixOk t.cols.length x) by rw [List.take_add_one, hx]; simp)
              have HX := Lib.hid hx
              have hxl := (HF.out.idxf x (List.mem_of_getElem? hx)).2.1
              have t1 : decide ((k : Int) < (t.idx.length : Int)) = true := by simp; omega
              have t2 : decide (k < t.idx.length) = true := by simp; omega
              have HFW := Lib.hid hfw
              clear hb' q1 q2 q3 hx hsv hs0 HR2 hfw
              cases hB : (okA && (t.idx.take k).all (ixOk t.cols.length)) with
              | false =>
                go_wp2_with (first | (go_at_call 63; refine (c63_any _ _ _ _).mono ?_; rintro e w' ⟨rfl, rfl⟩) | fail)
                go_loopw [80, 5] (fun u80 u5 wq => ∃ j q : Nat, u80 = .int .i64 j ∧ u5 = .bool (false && (x.cols.take j).all (fun n => inside n 0 ((t.cols.length : Int) - 1))) ∧ j ≤ x.cols.length ∧ wq = (wr2.alloc (.cells #[.string x.name, .slice As x.cols.length cs, .bool x.uniq] 91)).drewN q) (fun i _ _ => x.cols.length - (intOf i).toNat)
                case atStart => exact ⟨0, 0, rfl, by simp, Nat.zero_le _, rfl⟩
                case round =>
                  obtain ⟨j, q, rfl, rfl, hj, rfl⟩ := hrel
                  by_cases hlj : j < x.cols.length
                  · obtain ⟨n, hn⟩ : ∃ n, x.cols[j]? = some n := ⟨_, List.getElem?_eq_getElem hlj⟩
                    obtain ⟨bs, os, rfl, g0⟩ := HS.out.rc.at_ (show (x.cols.map encI)[j]? = some (encI n) by rw [List.getElem?_map, hn]; rfl)
                    have hltb := cell_lt' g0
                    have HN := Lib.hid (show (x.cols.take (j + 1)).all (fun n => inside n 0 ((t.cols.length : Int) - 1)) = ((x.cols.take j).all (fun n => inside n 0 ((t.cols.length : Int) - 1)) && inside n 0 ((t.cols.length : Int) - 1)) by rw [List.take_add_one, hn]; simp)
                    have hnb := Hn.out x (List.mem_of_getElem? HX.out) n (List.mem_of_getElem? hn)
                    have s1 : decide ((j : Int) < (x.cols.length : Int)) = true := by simp; omega
                    have s2 : decide (j < x.cols.length) = true := by simp; omega
                    have s3 : bs ≠ wr2.heap.size := by omega
                    clear hn
                    cases hD : (false && (x.cols.take j).all (fun n => inside n 0 ((t.cols.length : Int) - 1))) with
                    | false =>
                      go_wp2_with fail
                      go_roundw
                      case rel => exact ⟨j + 1, q, by go_num, by rw [HN.out, ← Bool.and_assoc, hD]; rfl, by omega, rfl⟩
                      case measure => simp [intOf]; omega
                    | true =>
                      go_wp2_with (first | (go_at_call 63; refine (c63_any _ _ _ _).mono ?_; rintro e w' ⟨rfl, rfl⟩) | fail)
                      go_roundw
                      case rel => exact ⟨j + 1, q, by go_num, by rw [HN.out, ← Bool.and_assoc, hD]; rfl, by omega, rfl⟩
                      case measure => simp [intOf]; omega
                  · obtain rfl : j = x.cols.length := by omega
                    have s1 : decide ((x.cols.length : Int) < (x.cols.length : Int)) = false := by simp
                    have s2 : decide (x.cols.length < x.cols.length) = false := by simp
                    go_wp2_with fail
                    go_roundw
                    case rel => exact ⟨k + 1, by go_num, by rw [HK.out, ← Bool.and_assoc, hB]; simp [ixOk, List.take_length], by omega, (HFW.out.trans (((Fr.refl no wr2).alloc _).drewN q) (fun _ _ z => z))⟩
                    case measure => simp [intOf]; omega
              | true =>
                go_wp2_with (first | (go_at_call 63; refine (c63_any _ _ _ _).mono ?_; rintro e w' ⟨rfl, rfl⟩) | fail)
                go_loopw [80, 5] (fun u80 u5 wq => ∃ j q : Nat, u80 = .int .i64 j ∧ u5 = .bool (inside x.cols.length 1 32 && (x.cols.take j).all (fun n => inside n 0 ((t.cols.length : Int) - 1))) ∧ j ≤ x.cols.length ∧ wq = (wr2.alloc (.cells #[.string x.name, .slice As x.cols.length cs, .bool x.uniq] 91)).drewN q) (fun i _ _ => x.cols.length - (intOf i).toNat)
                case atStart => exact ⟨0, 0, rfl, by simp, Nat.zero_le _, rfl⟩
                case round =>
                  obtain ⟨j, q, rfl, rfl, hj, rfl⟩ := hrel
                  by_cases hlj : j < x.cols.length
                  · obtain ⟨n, hn⟩ : ∃ n, x.cols[j]? = some n := ⟨_, List.getElem?_eq_getElem hlj⟩
                    obtain ⟨bs, os, rfl, g0⟩ := HS.out.rc.at_ (show (x.cols.map encI)[j]? = some (encI n) by rw [List.getElem?_map, hn]; rfl)
                    have hltb := cell_lt' g0
                    have HN := Lib.hid (show (x.cols.take (j + 1)).all (fun n => inside n 0 ((t.cols.length : Int) - 1)) = ((x.cols.take j).all (fun n => inside n 0 ((t.cols.length : Int) - 1)) && inside n 0 ((t.cols.length : Int) - 1)) by rw [List.take_add_one, hn]; simp)
                    have hnb := Hn.out x (List.mem_of_getElem? HX.out) n (List.mem_of_getElem? hn)
                    have s1 : decide ((j : Int) < (x.cols.length : Int)) = true := by simp; omega
                    have s2 : decide (j < x.cols.length) = true := by simp; omega
                    have s3 : bs ≠ wr2.heap.size := by omega
                    clear hn
                    cases hD : (inside x.cols.length 1 32 && (x.cols.take j).all (fun n => inside n 0 ((t.cols.length : Int) - 1))) with
                    | false =>
                      go_wp2_with fail
                      go_roundw
                      case rel => exact ⟨j + 1, q, by go_num, by rw [HN.out, ← Bool.and_assoc, hD]; rfl, by omega, rfl⟩
                      case measure => simp [intOf]; omega
                    | true =>
                      go_wp2_with (first | (go_at_call 63; refine (c63_any _ _ _ _).mono ?_; rintro e w' ⟨rfl, rfl⟩) | fail)
                      go_roundw
                      case rel => exact ⟨j + 1, q, by go_num, by rw [HN.out, ← Bool.and_assoc, hD]; rfl, by omega, rfl⟩
                      case measure => simp [intOf]; omega
                  · obtain rfl : j = x.cols.length := by omega
                    have s1 : decide ((x.cols.length : Int) < (x.cols.length : Int)) = false := by simp
                    have s2 : decide (x.cols.length < x.cols.length) = false := by simp
                    go_wp2_with fail
                    go_roundw
                    case rel => exact ⟨k + 1, by go_num, by rw [HK.out, ← Bool.and_assoc, hB]; simp [ixOk, List.take_length], by omega, (HFW.out.trans (((Fr.refl no wr2).alloc _).drewN q) (fun _ _ z => z))⟩
                    case measure => simp [intOf]; omega
            · obtain rfl : k = t.idx.length := by omega
              have t1 : decide ((t.idx.length : Int) < (t.idx.length : Int)) = false := by simp
              have t2 : decide (t.idx.length < t.idx.length) = false := by simp
              rw [List.take_length]
              have HR := Lib.hid (show errT t = if (okA && t.idx.all (ixOk t.cols.length)) = true then 0 else 140 by unfold errT; rw [checkT_eq, HA.out])
              have HFin := Lib.hid (HW3.out.trans hfw (fun _ _ z => z))
              clear hfw
              cases hB : (okA && t.idx.all (ixOk t.cols.length)) with
              | false =>
                rw [hB] at HR
                go_wp2_with fail
                go_ret
                exact ⟨by rw [HR.out]; rfl, HFin.out⟩
              | true =>
                rw [hB] at HR
                go_wp2_with fail
                go_ret
                exact ⟨by rw [HR.out]; rfl, HFin.out⟩
end Go.Proofs.Ythmjjbgjbcnjmaa
