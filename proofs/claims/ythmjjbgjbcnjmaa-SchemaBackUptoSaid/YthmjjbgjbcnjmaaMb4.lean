/-
  Contracts of the functions that the statement reaches, and the plain laws behind it: this seat's texts Td, Te, Tf, Tg, Ua, Ub, one behind the other.
-/
import Derived.Test.YthmjjbgjbcnjmaaMb3
import Derived.Deep.CutRange
import Derived.Deep.CutBlock
import Derived.Lib.SliceRun
import Derived.Deep.RegionHeld3
import Derived.Deep.Onto
import Derived.Deep.DrawnRows

namespace Go.Proofs.Ythmjjbgjbcnjmaa
open Go.RowKit Go.Hop

/-- a schema's parts are of sizes that fit a machine -/
structure TabFit (t : Tab) : Prop where
  name : t.name.size ≤ 140737488351232
  cols : t.cols.length ≤ 4398046511104
  key : -9223372036854775808 ≤ t.key ∧ t.key ≤ 9223372036854775807
  idx : t.idx.length ≤ 4398046511104
  colf : ∀ p ∈ t.cols, p.1.size ≤ 140737488351232 ∧ -9223372036854775808 ≤ p.2 ∧ p.2 ≤ 9223372036854775807
  idxf : ∀ x ∈ t.idx, x.name.size ≤ 140737488351232 ∧ x.cols.length ≤ 4398046511104 ∧ ∀ n ∈ x.cols, -9223372036854775808 ≤ n ∧ n ≤ 9223372036854775807
def ok0 (t : Tab) : Bool := namedS t.name && inside t.cols.length 1 32 && inside t.key 1 t.cols.length && decide (t.idx.length ≤ 8)
def ok1 (t : Tab) : Bool := ok0 t && distB (t.cols.map Prod.fst) && distB (t.idx.map Ix.name)
/-- what Check answers -/
def errT (t : Tab) : Int := if checkT t = true then 0 else 140
def kindOk (c : Col) : Bool := inside c.2 1 5
def ixOk (many : Nat) (x : Ix) : Bool := inside x.cols.length 1 32 && x.cols.all (fun n => inside n 0 ((many : Int) - 1))
theorem checkT_eq (t : Tab) : checkT t = (ok1 t && t.cols.all kindOk && t.idx.all (ixOk t.cols.length)) := rfl
theorem cells4 {w : World} {b t : Nat} {u v x y : Value} (h : w.heap[b]? = some (.cells #[u, v, x, y] t (0, 0))) :
    w.cell? ⟨b, 0, none⟩ = some u ∧ w.cell? ⟨b, 1, none⟩ = some v ∧ w.cell? ⟨b, 2, none⟩ = some x ∧ w.cell? ⟨b, 3, none⟩ = some y ∧ b < w.heap.size :=
  ⟨cells_at h 0 _ rfl, cells_at h 1 _ rfl, cells_at h 2 _ rfl, cells_at h 3 _ rfl, heap_lt h⟩

theorem IdxAt.forms {w : World} {K : Nat → Prop} {v : Value} {l : List Ix} {svs : List Value} (h : IdxAt w K v l svs) : ∀ u ∈ svs, ∃ A n c, u = Value.slice A n c := by
  intro u hu
  obtain ⟨j, hj⟩ := List.getElem?_of_mem hu
  have hjl : j < l.length := by have := (List.getElem?_eq_some_iff.1 hj).1; rw [h.len] at this; exact this
  obtain ⟨A, c, e, _⟩ := (h.each j _ u (List.getElem?_eq_getElem hjl) hj).rc.form
  exact ⟨A, _, c, e⟩
theorem cell_lt' {w : World} {b o : Nat} {v : Value} (h : w.cell? ⟨b, o, none⟩ = some v) : b < w.heap.size := by
  rcases Nat.lt_or_ge b w.heap.size with q | q
  · exact q
  · have : w.heap[b]? = none := by simp; omega
    simp [World.cell?, this] at h

set_option maxHeartbeats 4000000 in
set_option maxRecDepth 100000 in
theorem check_any (K : Nat → Prop) (val : Value) (t : Tab) (w : World) (h : TabAt w K val t) (hf : TabFit t) : Calls Try.prog 27 #[val] w (AsBefore w (.int .i64 (errT t))) := by
  obtain ⟨vc, vi, svs, rfl, hc, hi⟩ := h.ex
  have HC := Lib.hid hc
  have HI := Lib.hid hi
  have HF := Lib.hid hf
  obtain ⟨Ac, cc, rfl, hcc⟩ := hc.rc.form
  obtain ⟨Ai, ci, rfl, hci⟩ := hi.row.rc.form
  have f1 := hf.name
  have f2 := hf.cols
  have f3 := hf.idx
  clear h hc hi hf
  go_enter Try.func27, Try.ntmps27
  go_upto_region 3 with fail
  go_cut [5] from 12 (fun u5 wc => u5 = .bool (ok0 t) ∧ Fr no (w.alloc (.cells #[.string t.name, .slice Ac t.cols.length cc, .int .i64 t.key, .slice Ai t.idx.length ci] 41)) wc)
  case first =>
    have hok := Lib.hid (show ok0 t = (namedS t.name && inside t.cols.length 1 32 && inside t.key 1 t.cols.length && decide (t.idx.length ≤ 8)) from rfl)
    cases hn : namedS t.name with
    | false =>
      have HO := Lib.hid (show ok0 t = false by rw [hok.out, hn]; rfl)
      go_wp2_with (first | (go_at_call 64; go_loud (refine (namedS_any _ _ f1).mono ?_; rintro e w1 ⟨rfl, hf1⟩; rw [hn]; obtain ⟨x0, x1, x2, x3, x4⟩ := cells4 (hf1.keep (heap_alloc_at w _) id); have HF1 := Lib.hid hf1; clear hf1)) | (go_at_call 63; go_loud (refine (c63_any _ _ _ _).mono ?_; rintro e w' ⟨rfl, rfl⟩; simp only [e1, e2])) | fail)
      go_meet
      case rel => exact ⟨by rw [HO.out], HF1.out⟩
    | true =>
    cases e1 : inside t.cols.length 1 32 with
    | false =>
      have e2 : True := trivial
      have HO := Lib.hid (show ok0 t = false by rw [hok.out, hn, e1]; rfl)
      go_wp2_with (first | (go_at_call 64; go_loud (refine (namedS_any _ _ f1).mono ?_; rintro e w1 ⟨rfl, hf1⟩; rw [hn]; obtain ⟨x0, x1, x2, x3, x4⟩ := cells4 (hf1.keep (heap_alloc_at w _) id); have HF1 := Lib.hid hf1; clear hf1)) | (go_at_call 63; go_loud (refine (c63_any _ _ _ _).mono ?_; rintro e w' ⟨rfl, rfl⟩; simp only [e1, e2])) | fail)
      go_meet
      case rel => exact ⟨by rw [HO.out], HF1.out⟩
    | true =>
    cases e2 : inside t.key 1 t.cols.length with
    | false =>
      have HO := Lib.hid (show ok0 t = false by rw [hok.out, hn, e1, e2]; rfl)
      go_wp2_with (first | (go_at_call 64; go_loud (refine (namedS_any _ _ f1).mono ?_; rintro e w1 ⟨rfl, hf1⟩; rw [hn]; obtain ⟨x0, x1, x2, x3, x4⟩ := cells4 (hf1.keep (heap_alloc_at w _) id); have HF1 := Lib.hid hf1; clear hf1)) | (go_at_call 63; go_loud (refine (c63_any _ _ _ _).mono ?_; rintro e w' ⟨rfl, rfl⟩; simp only [e1, e2])) | fail)
      go_meet
      case rel => exact ⟨by rw [HO.out], HF1.out⟩
    | true =>
    by_cases e3 : t.idx.length ≤ 8
    · have HO := Lib.hid (show ok0 t = true by rw [hok.out, hn, e1, e2, decide_eq_true e3]; rfl)
      have e4 : decide ((t.idx.length : Int) ≤ 8) = true := by simp; omega
      go_wp2_with (first | (go_at_call 64; go_loud (refine (namedS_any _ _ f1).mono ?_; rintro e w1 ⟨rfl, hf1⟩; rw [hn]; obtain ⟨x0, x1, x2, x3, x4⟩ := cells4 (hf1.keep (heap_alloc_at w _) id); have HF1 := Lib.hid hf1; clear hf1)) | (go_at_call 63; go_loud (refine (c63_any _ _ _ _).mono ?_; rintro e w' ⟨rfl, rfl⟩; simp only [e1, e2])) | fail)
      go_meet
      case rel => exact ⟨by rw [HO.out], HF1.out⟩
    · have HO := Lib.hid (show ok0 t = false by rw [hok.out, hn, e1, e2, decide_eq_false e3]; rfl)
      have e4 : decide ((t.idx.length : Int) ≤ 8) = false := by simp; omega
      go_wp2_with (first | (go_at_call 64; go_loud (refine (namedS_any _ _ f1).mono ?_; rintro e w1 ⟨rfl, hf1⟩; rw [hn]; obtain ⟨x0, x1, x2, x3, x4⟩ := cells4 (hf1.keep (heap_alloc_at w _) id); have HF1 := Lib.hid hf1; clear hf1)) | (go_at_call 63; go_loud (refine (c63_any _ _ _ _).mono ?_; rintro e w' ⟨rfl, rfl⟩; simp only [e1, e2])) | fail)
      go_meet
      case rel => exact ⟨by rw [HO.out], HF1.out⟩
  case rest =>
    obtain ⟨rfl, hfr⟩ := hcut
    obtain ⟨x0, x1, x2, x3, x4⟩ := cells4 (hfr.keep (heap_alloc_at w _) id)
    have HFR := Lib.hid hfr
    have HW : Fr no w wc := ((Fr.refl no w).alloc _).trans HFR.out (fun _ _ z => z)
    have HW := Lib.hid HW
    clear hfr
    go_upto_region 4 with fail
    go_cut [5] from 36 (fun u5 wd => u5 = .bool (ok1 t) ∧ Fr no wc wd)
    case first =>
      have hok := Lib.hid (show ok1 t = (ok0 t && distB (t.cols.map Prod.fst) && distB (t.idx.map Ix.name)) from rfl)
      cases e0 : ok0 t with
      | false =>
        have HO := Lib.hid (show ok1 t = false by rw [hok.out, e0]; rfl)
        go_wp2_with fail
        go_meet
        case rel => exact ⟨by rw [HO.out], Fr.refl _ _⟩
      | true =>
      cases e1 : distB (t.cols.map Prod.fst) with
      | false =>
        have HO := Lib.hid (show ok1 t = false by rw [hok.out, e0, e1]; rfl)
        go_wp2_with (first | (go_at_call 65; go_loud (refine (distinct65_any _ t.cols _ (HC.out.keep HW.out (fun _ _ _ z => z)).rc (by omega) (fun p hp => (HF.out.colf p hp).1)).mono ?_; rintro e wd ⟨rfl, hfa⟩; rw [e1]; have y3 := hfa.cell x3 id; have HFA := Lib.hid hfa; clear hfa)) | fail)
        go_meet
        case rel => exact ⟨by rw [HO.out], HFA.out⟩
      | true =>
      cases e2 : distB (t.idx.map Ix.name) with
      | false =>
        have HO := Lib.hid (show ok1 t = false by rw [hok.out, e0, e1, e2]; rfl)
        go_wp2_with (first | (go_at_call 65; go_loud (refine (distinct65_any _ t.cols _ (HC.out.keep HW.out (fun _ _ _ z => z)).rc (by omega) (fun p hp => (HF.out.colf p hp).1)).mono ?_; rintro e wd ⟨rfl, hfa⟩; rw [e1]; have y3 := hfa.cell x3 id; have HFA := Lib.hid hfa; clear hfa)) | (go_at_call 67; go_loud (refine (distinct67_any _ t.idx svs _ ((HI.out.row.keep HW.out (fun _ _ _ z => z)).keep HFA.out (fun _ _ _ z => z)).rc (by omega) (fun p hp => (HF.out.idxf p hp).1) HI.out.len HI.out.forms).mono ?_; rintro e we ⟨rfl, hfb⟩; rw [e2]; have HFB := Lib.hid hfb; clear hfb)) | fail)
        go_meet
        case rel => exact ⟨by rw [HO.out], HFA.out.trans HFB.out (fun _ _ z => z)⟩
      | true =>
        have HO := Lib.hid (show ok1 t = true by rw [hok.out, e0, e1, e2]; rfl)
        go_wp2_with (first | (go_at_call 65; go_loud (refine (distinct65_any _ t.cols _ (HC.out.keep HW.out (fun _ _ _ z => z)).rc (by omega) (fun p hp => (HF.out.colf p hp).1)).mono ?_; rintro e wd ⟨rfl, hfa⟩; rw [e1]; have y3 := hfa.cell x3 id; have HFA := Lib.hid hfa; clear hfa)) | (go_at_call 67; go_loud (refine (distinct67_any _ t.idx svs _ ((HI.out.row.keep HW.out (fun _ _ _ z => z)).keep HFA.out (fun _ _ _ z => z)).rc (by omega) (fun p hp => (HF.out.idxf p hp).1) HI.out.len HI.out.forms).mono ?_; rintro e we ⟨rfl, hfb⟩; rw [e2]; have HFB := Lib.hid hfb; clear hfb)) | fail)
        go_meet
        case rel => exact ⟨by rw [HO.out], HFA.out.trans HFB.out (fun _ _ z => z)⟩
    case rest =>
      obtain ⟨rfl, hfr2⟩ := hcut
      replace x1 := hfr2.cell x1 id
      replace x3 := hfr2.cell x3 id
      have hgt := hfr2.size
      have HW2 := Lib.hid (HW.out.trans hfr2 (fun _ _ z => z))
      have HC2 := Lib.hid (HC.out.keep HW2.out (fun _ _ _ z => z))
      clear hfr2 x0 x2 HFR
      go_wp2_with fail
      go_loopw [50, 5] (fun u50 u5 wr => ∃ k : Nat, u50 = .int .i64 k ∧ u5 = .bool (ok1 t && (t.cols.take k).all kindOk) ∧ k ≤ t.cols.length ∧ Fr no wc wr) (fun i _ _ => t.cols.length - (intOf i).toNat)
      case atStart => exact ⟨0, rfl, by simp, Nat.zero_le _, Fr.refl _ _⟩
      case round =>
        obtain ⟨k, rfl, rfl, hk, hfw⟩ := hrel
        by_cases hlt : k < t.cols.length
        · obtain ⟨p, hp⟩ : ∃ p, t.cols[k]? = some p := ⟨_, List.getElem?_eq_getElem hlt⟩
          obtain ⟨q1, q2⟩ := ccells_at t.cols k p hp
          obtain ⟨b, off, rfl, e0⟩ := HC2.out.rc.at_ q1
          obtain ⟨b', off', hb', e1⟩ := HC2.out.rc.at_ q2
          obtain ⟨rfl, rfl⟩ : b = b' ∧ off = off' := by injection hb' with hb'; injection hb' with z1 z2; exact ⟨z1, z2⟩
          replace e0 := hfw.cell e0 id
          replace e1 := hfw.cell e1 id
          rw [← Nat.add_assoc] at e1
          have HN := Lib.hid (show (t.cols.take (k + 1)).all kindOk = ((t.cols.take k).all kindOk && kindOk p) by rw [List.take_add_one, hp]; simp)
          have t1 : decide ((k : Int) < (t.cols.length : Int)) = true := by simp; omega
          have t2 : decide (k < t.cols.length) = true := by simp; omega
          have HFW := Lib.hid hfw
          clear hb' q1 q2 hp hfw
          cases hB : (ok1 t && (t.cols.take k).all kindOk) with
          | false =>
            go_wp2_with fail
            go_roundw
            case rel => exact ⟨k + 1, by go_num, by rw [HN.out, ← Bool.and_assoc, hB]; rfl, by omega, HFW.out.alloc _⟩
            case measure => simp [intOf]; omega
          | true =>
            go_wp2_with (first | (go_at_call 63; refine (c63_any _ _ _ _).mono ?_; rintro e w' ⟨rfl, rfl⟩) | fail)
            go_roundw
            case rel => exact ⟨k + 1, by go_num, by rw [HN.out, ← Bool.and_assoc, hB]; rfl, by omega, HFW.out.alloc _⟩
            case measure => simp [intOf]; omega
        · obtain rfl : k = t.cols.length := by omega
          have t1 : decide ((t.cols.length : Int) < (t.cols.length : Int)) = false := by simp
          have t2 : decide (t.cols.length < t.cols.length) = false := by simp
          rw [List.take_length]
          replace x3 := hfw.cell x3 id
          have hgt2 := hfw.size
          have HW3 := Lib.hid (HW2.out.trans hfw (fun _ _ z => z))
          generalize hA : (ok1 t && t.cols.all kindOk) = okA
          have HA := Lib.hid hA
          have Hn := Lib.hid (fun x hx => (HF.out.idxf x hx).2.2)
          clear hA hfw
          go_wp2_with fail
          go_loopw [65, 5] (fun u65 u5 wr2 => ∃ k : Nat, u65 = .int .i64 k ∧ u5 = .bool (okA && (t.idx.take k).all (ixOk t.cols.length)) ∧ k ≤ t.idx.length ∧ Fr no wr wr2) (fun i _ _ => t.idx.length - (intOf i).toNat)
          case atStart => exact ⟨0, rfl, by simp, Nat.zero_le _, Fr.refl _ _⟩
          case round =>
            rename World => wr2
            obtain ⟨k, rfl, rfl, hk, hfw⟩ := hrel
            by_cases hlt : k < t.idx.length
            · obtain ⟨x, hx⟩ : ∃ x, t.idx[k]? = some x := ⟨_, List.getElem?_eq_getElem hlt⟩
              obtain ⟨sv, hsv⟩ : ∃ sv, svs[k]? = some sv := ⟨_, List.getElem?_eq_getElem (by rw [HI.out.len]; omega)⟩
              obtain ⟨q1, q2, q3⟩ := icells_at t.idx svs k x sv hx hsv
              have hs0 := (((HI.out.each k x sv hx hsv).keep HW3.out (fun _ _ _ z => z)).keep hfw (fun _ _ _ z => z))
              obtain ⟨As, cs, rfl, hcs⟩ := hs0.rc.form
              have HS := Lib.hid hs0
              have HR2 := (HI.out.row.rc.keep HW3.out (fun _ _ z => z))
              obtain ⟨b, off, rfl, e0⟩ := HR2.at_ q1
              obtain ⟨b', off', hb', e1⟩ := HR2.at_ q2
              obtain ⟨rfl, rfl⟩ : b = b' ∧ off = off' := by injection hb' with hb'; injection hb' with z1 z2; exact ⟨z1, z2⟩
              obtain ⟨b', off', hb', e2⟩ := HR2.at_ q3
              obtain ⟨rfl, rfl⟩ : b = b' ∧ off = off' := by injection hb' with hb'; injection hb' with z1 z2; exact ⟨z1, z2⟩
              replace e0 := hfw.cell e0 id
              replace e1 := hfw.cell e1 id
              replace e2 := hfw.cell e2 id
              rw [← Nat.add_assoc] at e1 e2
              have HK := Lib.hid (show (t.idx.take (k + 1)).all (ixOk t.cols.length) = ((t.idx.take k).all (ixOk t.cols.length) && ixOk t.cols.length x) by rw [List.take_add_one, hx]; simp)
              have HX := Lib.hid hx
              have hxl := (HF.out.idxf x (List.mem_of_getElem? hx)).2.1
              have t1 : decide ((k : Int) < (t.idx.length : Int)) = true := by simp; omega
              have t2 : decide (k < t.idx.length) = true := by simp; omega
              have HFW := Lib.hid hfw
              clear hb' q1 q2 q3 hx hsv hs0 HR2 hfw
              cases hB : (okA && (t.idx.take k).all (ixOk t.cols.length)) with
              | false =>
                go_wp2_with (first | (go_at_call 63; refine (c63_any _ _ _ _).mono ?_; rintro e w' ⟨rfl, rfl⟩) | fail)
                go_loopw [80, 5] (fun u80 u5 wq => ∃ j q : Nat, u80 = .int .i64 j ∧ u5 = .bool (false && (x.cols.take j).all (fun n => inside n 0 ((t.cols.length : Int) - 1))) ∧ j ≤ x.cols.length ∧ wq = (wr2.alloc (.cells #[.string x.name, .slice As x.cols.length cs, .bool x.uniq] 91)).drewN q) (fun i _ _ => x.cols.length - (intOf i).toNat)
                case atStart => exact ⟨0, 0, rfl, by simp, Nat.zero_le _, rfl⟩
                case round =>
                  obtain ⟨j, q, rfl, rfl, hj, rfl⟩ := hrel
                  by_cases hlj : j < x.cols.length
                  · obtain ⟨n, hn⟩ : ∃ n, x.cols[j]? = some n := ⟨_, List.getElem?_eq_getElem hlj⟩
                    obtain ⟨bs, os, rfl, g0⟩ := HS.out.rc.at_ (show (x.cols.map encI)[j]? = some (encI n) by rw [List.getElem?_map, hn]; rfl)
                    have hltb := cell_lt' g0
                    have HN := Lib.hid (show (x.cols.take (j + 1)).all (fun n => inside n 0 ((t.cols.length : Int) - 1)) = ((x.cols.take j).all (fun n => inside n 0 ((t.cols.length : Int) - 1)) && inside n 0 ((t.cols.length : Int) - 1)) by rw [List.take_add_one, hn]; simp)
                    have hnb := Hn.out x (List.mem_of_getElem? HX.out) n (List.mem_of_getElem? hn)
                    have s1 : decide ((j : Int) < (x.cols.length : Int)) = true := by simp; omega
                    have s2 : decide (j < x.cols.length) = true := by simp; omega
                    have s3 : bs ≠ wr2.heap.size := by omega
                    clear hn
                    cases hD : (false && (x.cols.take j).all (fun n => inside n 0 ((t.cols.length : Int) - 1))) with
                    | false =>
                      go_wp2_with fail
                      go_roundw
                      case rel => exact ⟨j + 1, q, by go_num, by rw [HN.out, ← Bool.and_assoc, hD]; rfl, by omega, rfl⟩
                      case measure => simp [intOf]; omega
                    | true =>
                      go_wp2_with (first | (go_at_call 63; refine (c63_any _ _ _ _).mono ?_; rintro e w' ⟨rfl, rfl⟩) | fail)
                      go_roundw
                      case rel => exact ⟨j + 1, q, by go_num, by rw [HN.out, ← Bool.and_assoc, hD]; rfl, by omega, rfl⟩
                      case measure => simp [intOf]; omega
                  · obtain rfl : j = x.cols.length := by omega
                    have s1 : decide ((x.cols.length : Int) < (x.cols.length : Int)) = false := by simp
                    have s2 : decide (x.cols.length < x.cols.length) = false := by simp
                    go_wp2_with fail
                    go_roundw
                    case rel => exact ⟨k + 1, by go_num, by rw [HK.out, ← Bool.and_assoc, hB]; simp [ixOk, List.take_length], by omega, (HFW.out.trans (((Fr.refl no wr2).alloc _).drewN q) (fun _ _ z => z))⟩
                    case measure => simp [intOf]; omega
              | true =>
                go_wp2_with (first | (go_at_call 63; refine (c63_any _ _ _ _).mono ?_; rintro e w' ⟨rfl, rfl⟩) | fail)
                go_loopw [80, 5] (fun u80 u5 wq => ∃ j q : Nat, u80 = .int .i64 j ∧ u5 = .bool (inside x.cols.length 1 32 && (x.cols.take j).all (fun n => inside n 0 ((t.cols.length : Int) - 1))) ∧ j ≤ x.cols.length ∧ wq = (wr2.alloc (.cells #[.string x.name, .slice As x.cols.length cs, .bool x.uniq] 91)).drewN q) (fun i _ _ => x.cols.length - (intOf i).toNat)
                case atStart => exact ⟨0, 0, rfl, by simp, Nat.zero_le _, rfl⟩
                case round =>
                  obtain ⟨j, q, rfl, rfl, hj, rfl⟩ := hrel
                  by_cases hlj : j < x.cols.length
                  · obtain ⟨n, hn⟩ : ∃ n, x.cols[j]? = some n := ⟨_, List.getElem?_eq_getElem hlj⟩
                    obtain ⟨bs, os, rfl, g0⟩ := HS.out.rc.at_ (show (x.cols.map encI)[j]? = some (encI n) by rw [List.getElem?_map, hn]; rfl)
                    have hltb := cell_lt' g0
                    have HN := Lib.hid (show (x.cols.take (j + 1)).all (fun n => inside n 0 ((t.cols.length : Int) - 1)) = ((x.cols.take j).all (fun n => inside n 0 ((t.cols.length : Int) - 1)) && inside n 0 ((t.cols.length : Int) - 1)) by rw [List.take_add_one, hn]; simp)
                    have hnb := Hn.out x (List.mem_of_getElem? HX.out) n (List.mem_of_getElem? hn)
                    have s1 : decide ((j : Int) < (x.cols.length : Int)) = true := by simp; omega
                    have s2 : decide (j < x.cols.length) = true := by simp; omega
                    have s3 : bs ≠ wr2.heap.size := by omega
                    clear hn
                    cases hD : (inside x.cols.length 1 32 && (x.cols.take j).all (fun n => inside n 0 ((t.cols.length : Int) - 1))) with
                    | false =>
                      go_wp2_with fail
                      go_roundw
                      case rel => exact ⟨j + 1, q, by go_num, by rw [HN.out, ← Bool.and_assoc, hD]; rfl, by omega, rfl⟩
                      case measure => simp [intOf]; omega
                    | true =>
                      go_wp2_with (first | (go_at_call 63; refine (c63_any _ _ _ _).mono ?_; rintro e w' ⟨rfl, rfl⟩) | fail)
                      go_roundw
                      case rel => exact ⟨j + 1, q, by go_num, by rw [HN.out, ← Bool.and_assoc, hD]; rfl, by omega, rfl⟩
                      case measure => simp [intOf]; omega
                  · obtain rfl : j = x.cols.length := by omega
                    have s1 : decide ((x.cols.length : Int) < (x.cols.length : Int)) = false := by simp
                    have s2 : decide (x.cols.length < x.cols.length) = false := by simp
                    go_wp2_with fail
                    go_roundw
                    case rel => exact ⟨k + 1, by go_num, by rw [HK.out, ← Bool.and_assoc, hB]; simp [ixOk, List.take_length], by omega, (HFW.out.trans (((Fr.refl no wr2).alloc _).drewN q) (fun _ _ z => z))⟩
                    case measure => simp [intOf]; omega
            · obtain rfl : k = t.idx.length := by omega
              have t1 : decide ((t.idx.length : Int) < (t.idx.length : Int)) = false := by simp
              have t2 : decide (t.idx.length < t.idx.length) = false := by simp
              rw [List.take_length]
              have HR := Lib.hid (show errT t = if (okA && t.idx.all (ixOk t.cols.length)) = true then 0 else 140 by unfold errT; rw [checkT_eq, HA.out])
              have HFin := Lib.hid (HW3.out.trans hfw (fun _ _ z => z))
              clear hfw
              cases hB : (okA && t.idx.all (ixOk t.cols.length)) with
              | false =>
                rw [hB] at HR
                go_wp2_with fail
                go_ret
                exact ⟨by rw [HR.out]; rfl, HFin.out⟩
              | true =>
                rw [hB] at HR
                go_wp2_with fail
                go_ret
                exact ⟨by rw [HR.out]; rfl, HFin.out⟩
end Go.Proofs.Ythmjjbgjbcnjmaa

namespace Go.Proofs.Ythmjjbgjbcnjmaa
open Go.RowKit Go.Hop

theorem El38 : El Try.prog 38 43 2 24 := El.mk_ (.agg #[.string ⟨#[]⟩, .int .i64 0]) Try.underlying38 (by decide) rfl (by kernel_rfl)
theorem El39 : El Try.prog 39 91 3 48 := El.mk_ (.agg #[.string ⟨#[]⟩, .slice none 0 0, .bool false]) Try.underlying39 (by decide) rfl (by kernel_rfl)

set_option maxHeartbeats 1000000 in
set_option maxRecDepth 100000 in
theorem clone84_any (v : Value) (n : Nat) (cs : List Value) (w : World) (h : Rc w 2 v n cs) (hn : n ≤ 2199023255552) :
    Calls Try.prog 84 #[v] w fun e w' => ∃ r, e = .returned r ∧ w'.ownsRow w.heap.size 43 2 r n cs ∧ Fr no w w' := by
  obtain ⟨A, c, rfl, hc⟩ := h.form
  have H := Lib.hid h
  have hq := Go.Lib.run_eql_slice_nil (P := Try.prog) w 38 43 A n c 0 0 Try.underlying38
  clear h
  cases A with
  | none =>
    obtain ⟨A', c', e', hc', hl', h1', hx'⟩ := H.out
    injection e' with e1 _ e3
    subst e1 e3
    have hcs : cs = [] := by
      cases cs with
      | nil => rfl
      | cons u t => obtain ⟨_, _, q, _⟩ := hx' 0 u rfl; cases q
    subst hcs
    have hn0 : n = 0 := by simp at hl'; omega
    have HN := Lib.hid hn0
    clear hn0 hl' h1' hx' hc'
    go_enter Try.func84, Try.ntmps84
    go_wp2
    go_ret
    have hn0 := HN.out
    subst hn0
    exact ⟨_, rfl, World.ownsRow_nil _ _ _ _, Fr.refl _ _⟩
  | some a =>
    go_enter Try.func84, Try.ntmps84
    go_wp2_with (first | (at_builtin; go_loud (refine wp_append rfl (.tmp 5) (.tmp 6) 38 rfl El38 _ 0 [] rfl ((World.ownsRow_lit (base := w.heap.size) (size := 2) (e := 43) w #[] 0 (Nat.le_refl _) (by unfold maxLen; omega) rfl)) _ _ _ rfl (H.out.keep ((Fr.refl no w).alloc _) (fun _ _ z => z)) (by unfold maxLen; omega) (by omega) (by simp) ?_; intro v1 w1 ho1 hg1 hloc1; have HO1 := Lib.hid ho1; have HG1 := Lib.hid hg1; clear ho1 hg1 hloc1)) | fail)
    go_ret
    have h01 : Fr no w w1 := ((Fr.refl no w).alloc (.cells #[] 43)).trans (Fr.grown HG1.out) (fun i hi q => absurd hi (by
      have q2 : some i = some w.heap.size := q
      injection q2 with q2; omega))
    exact ⟨_, rfl, by simpa using HO1.out, h01⟩

set_option maxHeartbeats 1000000 in
set_option maxRecDepth 100000 in
theorem clone85_any (v : Value) (n : Nat) (cs : List Value) (w : World) (h : Rc w 3 v n cs) (hn : n ≤ 2199023255552) :
    Calls Try.prog 85 #[v] w fun e w' => ∃ r, e = .returned r ∧ w'.ownsRow w.heap.size 91 3 r n cs ∧ Fr no w w' := by
  obtain ⟨A, c, rfl, hc⟩ := h.form
  have H := Lib.hid h
  have hq := Go.Lib.run_eql_slice_nil (P := Try.prog) w 39 91 A n c 0 0 Try.underlying39
  clear h
  cases A with
  | none =>
    obtain ⟨A', c', e', hc', hl', h1', hx'⟩ := H.out
    injection e' with e1 _ e3
    subst e1 e3
    have hcs : cs = [] := by
      cases cs with
      | nil => rfl
      | cons u t => obtain ⟨_, _, q, _⟩ := hx' 0 u rfl; cases q
    subst hcs
    have hn0 : n = 0 := by simp at hl'; omega
    have HN := Lib.hid hn0
    clear hn0 hl' h1' hx' hc'
    go_enter Try.func85, Try.ntmps85
    go_wp2
    go_ret
    have hn0 := HN.out
    subst hn0
    exact ⟨_, rfl, World.ownsRow_nil _ _ _ _, Fr.refl _ _⟩
  | some a =>
    go_enter Try.func85, Try.ntmps85
    go_wp2_with (first | (at_builtin; go_loud (refine wp_append rfl (.tmp 5) (.tmp 6) 39 rfl El39 _ 0 [] rfl ((World.ownsRow_lit (base := w.heap.size) (size := 3) (e := 91) w #[] 0 (Nat.le_refl _) (by unfold maxLen; omega) rfl)) _ _ _ rfl (H.out.keep ((Fr.refl no w).alloc _) (fun _ _ z => z)) (by unfold maxLen; omega) (by omega) (by simp) ?_; intro v1 w1 ho1 hg1 hloc1; have HO1 := Lib.hid ho1; have HG1 := Lib.hid hg1; clear ho1 hg1 hloc1)) | fail)
    go_ret
    have h01 : Fr no w w1 := ((Fr.refl no w).alloc (.cells #[] 91)).trans (Fr.grown HG1.out) (fun i hi q => absurd hi (by
      have q2 : some i = some w.heap.size := q
      injection q2 with q2; omega))
    exact ⟨_, rfl, by simpa using HO1.out, h01⟩

set_option maxHeartbeats 1000000 in
set_option maxRecDepth 100000 in
theorem clone86_any (v : Value) (n : Nat) (cs : List Value) (w : World) (h : Rc w 1 v n cs) (hn : n ≤ 2199023255552) :
    Calls Try.prog 86 #[v] w fun e w' => ∃ r, e = .returned r ∧ w'.ownsRow w.heap.size 3 1 r n cs ∧ Fr no w w' := by
  obtain ⟨A, c, rfl, hc⟩ := h.form
  have H := Lib.hid h
  have hq := Go.Lib.run_eql_slice_nil (P := Try.prog) w 29 3 A n c 0 0 Try.underlying29
  clear h
  cases A with
  | none =>
    obtain ⟨A', c', e', hc', hl', h1', hx'⟩ := H.out
    injection e' with e1 _ e3
    subst e1 e3
    have hcs : cs = [] := by
      cases cs with
      | nil => rfl
      | cons u t => obtain ⟨_, _, q, _⟩ := hx' 0 u rfl; cases q
    subst hcs
    have hn0 : n = 0 := by simp at hl'; omega
    have HN := Lib.hid hn0
    clear hn0 hl' h1' hx' hc'
    go_enter Try.func86, Try.ntmps86
    go_wp2
    go_ret
    have hn0 := HN.out
    subst hn0
    exact ⟨_, rfl, World.ownsRow_nil _ _ _ _, Fr.refl _ _⟩
  | some a =>
    go_enter Try.func86, Try.ntmps86
    go_wp2_with (first | (at_builtin; go_loud (refine wp_append rfl (.tmp 5) (.tmp 6) 29 rfl El29 _ 0 [] rfl ((World.ownsRow_lit (base := w.heap.size) (size := 1) (e := 3) w #[] 0 (Nat.le_refl _) (by unfold maxLen; omega) rfl)) _ _ _ rfl (H.out.keep ((Fr.refl no w).alloc _) (fun _ _ z => z)) (by unfold maxLen; omega) (by omega) (by simp) ?_; intro v1 w1 ho1 hg1 hloc1; have HO1 := Lib.hid ho1; have HG1 := Lib.hid hg1; clear ho1 hg1 hloc1)) | fail)
    go_ret
    have h01 : Fr no w w1 := ((Fr.refl no w).alloc (.cells #[] 3)).trans (Fr.grown HG1.out) (fun i hi q => absurd hi (by
      have q2 : some i = some w.heap.size := q
      injection q2 with q2; omega))
    exact ⟨_, rfl, by simpa using HO1.out, h01⟩
end Go.Proofs.Ythmjjbgjbcnjmaa

namespace Go.Proofs.Ythmjjbgjbcnjmaa
open Go.RowKit Go.Hop
attribute [local go_sem ↓] Go.wp_at_zero Go.wp_at_succ

theorem icells_len : ∀ (l : List Ix) (svs : List Value), svs.length = l.length → (icells l svs).length = l.length * 3
  | [], _, _ => rfl
  | _ :: _, [], h => by simp at h
  | x :: xs, v :: vs, h => by
    have := icells_len xs vs (by simpa using h)
    simp only [icells, List.length_cons, this]; omega
theorem icells_set : ∀ (l : List Ix) (svs : List Value) (k : Nat) (u : Value), k < l.length → svs.length = l.length → (icells l svs).set (k * 3 + 1) u = icells l (svs.set k u)
  | [], _, _, _, h, _ => by simp at h
  | _ :: _, [], _, _, _, h => by simp at h
  | x :: xs, v :: vs, 0, u, _, _ => rfl
  | x :: xs, v :: vs, k + 1, u, h, h2 => by
    have ih := icells_set xs vs k u (by simpa using h) (by simpa using h2)
    have e : icells (x :: xs) (v :: vs) = .string x.name :: v :: .bool x.uniq :: icells xs vs := rfl
    rw [e, show (k + 1) * 3 + 1 = k * 3 + 1 + 3 by omega]
    simp only [List.set_cons_succ, ih]
    rfl
theorem owns_at {w : World} {base size n cap g : Nat} {e : TypeId} {xs : List Value} (h : w.ownsRow base e size (.slice (some ⟨g, 0, none⟩) n cap) n xs) {j : Nat} {u : Value} (hj : xs[j]? = some u) : w.cell? ⟨g, j, none⟩ = some u := by
  have := h.cells (g := g) rfl j u hj
  rwa [add_at, Nat.zero_add] at this
theorem RcK.of_owns {w : World} {base size n : Nat} {e : TypeId} {v : Value} {xs : List Value} (h : w.ownsRow base e size v n xs) (h1 : ∀ u ∈ xs, u.oneCell' = true) : RcK w (fun k => base ≤ k) size v n xs :=
  ⟨Rc.of_owns h h1, fun _ k hk => ⟨(h.lt k hk).2, (h.lt k hk).1⟩⟩

theorem ccells_one (l : List Col) : ∀ u ∈ ccells l, u.oneCell' = true := by
  intro u hu
  obtain ⟨p, _, hp⟩ := List.mem_flatMap.1 hu
  simp only [List.mem_cons, List.not_mem_nil, or_false] at hp
  rcases hp with rfl | rfl <;> rfl
/-- between two rounds of own's loop -/
structure OwnR (w : World) (K : Nat → Prop) (t : Tab) (svs : List Value) (p g ci : Nat) (vc : Value) (k : Nat) (svk : List Value) (wr : World) : Prop where
  fr : Fr no w wr
  res : wr.heap[p + 1]? = some (.cells #[.string ⟨#[]⟩, .slice none 0 0, .int .i64 0, .slice none 0 0] 41 (0, 0))
  box : wr.heap[p]? = some (.cells #[.string t.name, vc, .int .i64 t.key, .slice (some ⟨g, 0, none⟩) t.idx.length ci] 41 (0, 0))
  cols : RcK wr (fun b => w.heap.size ≤ b ∧ b ≠ g ∧ b ≠ p + 1) 2 vc t.cols.length (ccells t.cols)
  row : wr.ownsRow w.heap.size 91 3 (.slice (some ⟨g, 0, none⟩) t.idx.length ci) t.idx.length (icells t.idx svk)
  len : svk.length = t.idx.length
  pg : p ≠ g
  pg1 : p + 1 ≠ g
  pw : w.heap.size ≤ p
  new : ∀ (j : Nat) (x : Ix) (u : Value), j < k → t.idx[j]? = some x → svk[j]? = some u → RcK wr (fun b => w.heap.size ≤ b ∧ b ≠ g ∧ b ≠ p + 1) 1 u x.cols.length (x.cols.map encI)
  old : ∀ j, k ≤ j → svk[j]? = svs[j]?

theorem OwnR.step {w : World} {K : Nat → Prop} {t : Tab} {svs : List Value} {p g ci : Nat} {vc : Value} {k : Nat} {svk : List Value} {wr w1 w2 : World} {x : Ix} {r : Value} (h : OwnR w K t svs p g ci vc k svk wr) (hx : t.idx[k]? = some x)
    (h1 : Fr no wr w1) (ho : w1.ownsRow wr.heap.size 3 1 r x.cols.length (x.cols.map encI)) (h2 : w2 = w1.setCell ⟨g, k * 3 + 1, none⟩ r) : OwnR w K t svs p g ci vc (k + 1) (svk.set k r) w2 := by
  subst h2
  have hk : k < t.idx.length := (List.getElem?_eq_some_iff.1 hx).1
  have hg : w.heap.size ≤ g ∧ g < wr.heap.size := h.row.lt g rfl
  have hf2 : Fr (fun b => b = g) w1 (w1.setCell ⟨g, k * 3 + 1, none⟩ r) := (Fr.refl _ _).setCell _ _ (fun _ => rfl)
  have hf1 := h1.size
  have row1 := h1.owns h.row (fun _ _ q => q)
  refine ⟨(h.fr.trans h1 (fun _ _ q => q)).trans hf2 (fun i hi q => absurd hi (by omega)), hf2.keep (h1.keep h.res id) h.pg1, hf2.keep (h1.keep h.box id) h.pg, ?_, ?_, by simpa using h.len, h.pg, h.pg1, h.pw, ?_, ?_⟩
  · exact (h.cols.keep h1 (fun _ _ _ q => q)).keep hf2 (fun b _ q => q.2.1)
  · have := owns_set row1 (k * 3 + 1) r
    rwa [icells_set _ _ _ _ hk h.len] at this
  · intro j y u hj hy hu
    by_cases hjk : j = k
    · subst hjk
      rw [hx] at hy; injection hy with hy; subst hy
      rw [List.getElem?_set_self (by rw [h.len]; exact hk)] at hu
      injection hu with hu; subst hu
      have q0 := RcK.of_owns ho (by simp [encI, Value.oneCell'])
      refine (q0.mono (K' := fun b => w.heap.size ≤ b ∧ b ≠ g ∧ b ≠ p + 1) (fun b _ q => ⟨by have := h.fr.size; omega, by omega, by have := heap_lt h.res; omega⟩)).keep hf2 (fun b _ q => q.2.1)
    · rw [List.getElem?_set_ne (by omega)] at hu
      exact ((h.new j y u (by omega) hy hu).keep h1 (fun _ _ _ q => q)).keep hf2 (fun b _ q => q.2.1)
  · intro j hj
    rw [List.getElem?_set_ne (by omega)]
    exact h.old j (by omega)

theorem fr_set4 (w : World) (b : Nat) (u0 u1 u2 u3 : Value) : Fr (fun k => k = b) w ((((w.setCell ⟨b, 0, none⟩ u0).setCell ⟨b, 1, none⟩ u1).setCell ⟨b, 2, none⟩ u2).setCell ⟨b, 3, none⟩ u3) := by
  have h0 := (Fr.refl (fun k => k = b) w).setCell ⟨b, 0, none⟩ u0 (fun _ => rfl)
  have h1 := h0.setCell ⟨b, 1, none⟩ u1 (fun _ => rfl)
  have h2 := h1.setCell ⟨b, 2, none⟩ u2 (fun _ => rfl)
  exact h2.setCell ⟨b, 3, none⟩ u3 (fun _ => rfl)
theorem OwnR.done {w : World} {K : Nat → Prop} {t : Tab} {svs : List Value} {p g ci : Nat} {vc : Value} {svk : List Value} {wr w' : World} (h : OwnR w K t svs p g ci vc t.idx.length svk wr) (hf : Fr (fun b => b = p + 1) wr w') :
    TabAt w' (fun k => w.heap.size ≤ k) (.agg #[.string t.name, vc, .int .i64 t.key, .slice (some ⟨g, 0, none⟩) t.idx.length ci]) t ∧ Fr no w w' := by
  have hone : ∀ u ∈ icells t.idx svk, u.oneCell' = true := by
    intro u hu
    obtain ⟨j, hj⟩ := List.getElem?_of_mem hu
    have hjl : j < t.idx.length * 3 := by have := (List.getElem?_eq_some_iff.1 hj).1; rwa [icells_len _ _ h.len] at this
    obtain ⟨x, hx⟩ : ∃ x, t.idx[j / 3]? = some x := ⟨_, List.getElem?_eq_getElem (by omega)⟩
    obtain ⟨v, hv⟩ : ∃ v, svk[j / 3]? = some v := ⟨_, List.getElem?_eq_getElem (by rw [h.len]; omega)⟩
    obtain ⟨q1, q2, q3⟩ := icells_at t.idx svk (j / 3) x v hx hv
    rcases (by omega : j = j / 3 * 3 ∨ j = j / 3 * 3 + 1 ∨ j = j / 3 * 3 + 2) with e | e | e
    · rw [e, q1] at hj; injection hj with hj; subst hj; rfl
    · rw [e, q2] at hj; injection hj with hj; subst hj
      obtain ⟨A, c, rfl, _⟩ := (h.new (j / 3) x v (by omega) hx hv).rc.form
      rfl
    · rw [e, q3] at hj; injection hj with hj; subst hj; rfl
  refine ⟨⟨vc, _, svk, rfl, (h.cols.keep hf (fun b _ q => q.2.2)).mono (fun b _ q => q.1), h.len, ?_, fun j x u hx hu => ?_⟩, h.fr.trans hf (fun i hi q => absurd hi (by have := h.pw; omega))⟩
  · exact RcK.of_owns (hf.owns h.row (fun k hk q => h.pg1 (by obtain rfl : g = k := Option.some.inj hk; exact q.symm))) hone
  · exact ((h.new j x u (List.getElem?_eq_some_iff.1 hx).1 hx hu).keep hf (fun b _ q => q.2.2)).mono (fun b _ q => q.1)

set_option maxHeartbeats 1500000 in
set_option maxRecDepth 100000 in
theorem own_any (K : Nat → Prop) (val : Value) (t : Tab) (w : World) (h : TabAt w K val t) (hf : TabFit t) (hlen : t.cols.length ≤ 2199023255552 ∧ t.idx.length ≤ 2199023255552) (hxl : ∀ x ∈ t.idx, x.cols.length ≤ 2199023255552) :
    Calls Try.prog 55 #[val] w fun e w' => ∃ r, e = .returned r ∧ TabAt w' (fun k => w.heap.size ≤ k) r t ∧ Fr no w w' := by
  obtain ⟨vc, vi, svs, rfl, hc, hi⟩ := h.ex
  have HC := Lib.hid hc
  have HI := Lib.hid hi
  have HF := Lib.hid hf
  obtain ⟨Ac, cc, rfl, hcc⟩ := hc.rc.form
  obtain ⟨Ai, ci, rfl, hci⟩ := hi.row.rc.form
  have hl1 := hlen.1
  have hl2 := hlen.2
  clear h hc hi hf hlen
  go_enter Try.func55, Try.ntmps55
  go_wp2_with (first | (go_at_call 84; go_loud (refine (clone84_any _ _ _ _ (HC.out.rc.keep (((Fr.refl no w).alloc _).alloc _) (fun _ _ z => z)) hl1).mono ?_; rintro e w1 ⟨r1, rfl, ho1, hf1⟩; obtain ⟨A1, c1, rfl⟩ := owns_slice ho1; have HO1 := Lib.hid ho1; have HF1 := Lib.hid hf1; have hb1 := hf1.keep ((Below.heap_alloc (w.alloc _) _ w.heap.size (by simp)).trans (heap_alloc_at w _)) id; obtain ⟨x0, x1, x2, x3, x4⟩ := cells4 hb1; have x5 := free_at hb1 1; have HB1 := Lib.hid hb1; clear ho1 hf1 hb1)) | (go_at_call 85; go_loud (refine (clone85_any _ _ _ _ (HI.out.row.rc.keep (((((Fr.refl no w).alloc _).alloc _).trans HF1.out (fun _ _ z => z)).setCell _ _ (fun q => absurd q (by simp))) (fun _ _ z => z)) hl2).mono ?_; rintro e w2 ⟨r2, rfl, ho2, hf2⟩; obtain ⟨A2, c2, rfl⟩ := owns_slice ho2; have HO2 := Lib.hid ho2; have HF2 := Lib.hid hf2; have hb2 := hf2.keep (heap_setCell_at HB1.out 1 (.slice A1 t.cols.length c1)) id; obtain ⟨y0, y1, y2, y3, y4⟩ := cells4 hb2; have y5 := free_at hb2 3; have HB2 := Lib.hid hb2; clear ho2 hf2 hb2 x0 x1 x2 x3 x5)) | fail)
  have hfr2 : Fr no w (w2.setCell ⟨w.heap.size, 3, none⟩ (.slice A2 t.idx.length c2)) := ((((((Fr.refl no w).alloc _).alloc _).trans HF1.out (fun _ _ z => z)).setCell _ _ (fun q => absurd q (by simp))).trans HF2.out (fun _ _ z => z)).setCell _ _ (fun q => absurd q (by simp))
  have hbox := heap_setCell_at HB2.out 3 (.slice A2 t.idx.length c2)
  have hres : (w2.setCell ⟨w.heap.size, 3, none⟩ (.slice A2 t.idx.length c2)).heap[w.heap.size + 1]? = some (.cells #[.string ⟨#[]⟩, .slice none 0 0, .int .i64 0, .slice none 0 0] 41 (0, 0)) := by
    rw [Below.heap_setCell _ _ _ _ (by simp)]
    refine HF2.out.keep ?_ id
    rw [Below.heap_setCell _ _ _ _ (by simp)]
    refine HF1.out.keep ?_ id
    simpa using heap_alloc_at (w.alloc (.cells #[.string t.name, .slice Ac t.cols.length cc, .int .i64 t.key, .slice Ai t.idx.length ci] 41)) (.cells #[.string ⟨#[]⟩, .slice none 0 0, .int .i64 0, .slice none 0 0] 41)
  have hcols : RcK w1 (fun k => w.heap.size ≤ k ∧ k < w1.heap.size ∧ k ≠ w.heap.size ∧ k ≠ w.heap.size + 1) 2 (.slice A1 t.cols.length c1) t.cols.length (ccells t.cols) :=
    (RcK.of_owns HO1.out (ccells_one _)).mono (fun b hb q => ⟨by simp at q; omega, hb, by simp at q; omega, by simp at q; omega⟩)
  have hs1 : w1.heap.size ≤ w2.heap.size := by have := HF2.out.size; simpa using this
  have hcols2 : RcK (w2.setCell ⟨w.heap.size, 3, none⟩ (.slice A2 t.idx.length c2)) (fun k => w.heap.size ≤ k ∧ k < w1.heap.size ∧ k ≠ w.heap.size ∧ k ≠ w.heap.size + 1) 2 (.slice A1 t.cols.length c1) t.cols.length (ccells t.cols) :=
    ((hcols.keep ((Fr.refl (fun b => b = w.heap.size) w1).setCell _ _ (fun _ => rfl)) (fun b _ q => q.2.2.1)).keep HF2.out (fun _ _ _ z => z)).keep ((Fr.refl (fun b => b = w.heap.size) w2).setCell _ _ (fun _ => rfl)) (fun b _ q => q.2.2.1)
  have hrow : (w2.setCell ⟨w.heap.size, 3, none⟩ (.slice A2 t.idx.length c2)).ownsRow w1.heap.size 91 3 (.slice A2 t.idx.length c2) t.idx.length (icells t.idx svs) :=
    ((Fr.refl (fun b => b = w.heap.size) w2).setCell _ _ (fun _ => rfl)).owns (HO2.out.mono (by simp)) (fun k hk q => by have := (HO2.out.lt k hk).1; simp at this; omega)
  have HFR2 := Lib.hid hfr2
  have HRES := Lib.hid hres
  have HROW := Lib.hid hrow
  have HCOLS := Lib.hid hcols2
  have hbox' : (w2.setCell ⟨w.heap.size, 3, none⟩ (.slice A2 t.idx.length c2)).heap[w.heap.size]? = some (.cells #[.string t.name, .slice A1 t.cols.length c1, .int .i64 t.key, .slice A2 t.idx.length c2] 41 (0, 0)) := by simpa using hbox
  have HBOX := Lib.hid hbox'
  have hw1 : w.heap.size + 1 < w1.heap.size := by have := HF1.out.size; simp at this; omega
  have hw2 : w1.heap.size ≤ (w2.setCell ⟨w.heap.size, 3, none⟩ (.slice A2 t.idx.length c2)).heap.size := by simpa using hs1
  clear hfr2 hbox hbox' hres hcols hcols2 hrow HO1 HF1 HB1 HO2 HF2 HB2 y0 y1 y2 y3 y4 y5 x4 hs1
  generalize (w2.setCell ⟨w.heap.size, 3, none⟩ (.slice A2 t.idx.length c2)) = w3 at *
  by_cases hz : t.idx.length = 0
  · have HX := Lib.hid (show t.idx = [] from List.eq_nil_of_length_eq_zero hz)
    obtain ⟨z0, z1, z2, z3, z4⟩ := cells4 HBOX.out
    obtain ⟨r0, r1, r2, r3, r4⟩ := cells4 HRES.out
    have rf0 := free_at HRES.out 0
    have rf1 := free_at HRES.out 1
    have rf2 := free_at HRES.out 2
    have rf3 := free_at HRES.out 3
    have t1 : decide ((0 : Int) < (t.idx.length : Int)) = false := by rw [hz]; rfl
    have t2 : decide (0 < t.idx.length) = false := by rw [hz]; rfl
    have Hz := Lib.hid hz
    clear hz
    go_loopw [15] (fun u15 wr => u15 = .int .i64 0 ∧ wr = w3) (fun _ _ => 0)
    case atStart => exact ⟨rfl, rfl⟩
    case round =>
      obtain ⟨rfl, rfl⟩ := hrel
      go_wp2_with fail
      have hfin := fr_set4 wr (w.heap.size + 1) (.string t.name) (.slice A1 t.cols.length c1) (.int .i64 t.key) (.slice A2 t.idx.length c2)
      have hh := heap_setCell_at (heap_setCell_at (heap_setCell_at (heap_setCell_at HRES.out 0 (.string t.name)) 1 (.slice A1 t.cols.length c1)) 2 (.int .i64 t.key)) 3 (.slice A2 t.idx.length c2)
      simp only [List.setIfInBounds_toArray, List.set_cons_zero, List.set_cons_succ] at hh
      refine bodyPost_ret (v := .agg #[.string t.name, .slice A1 t.cols.length c1, .int .i64 t.key, .slice A2 t.idx.length c2]) ?_ rfl ⟨_, rfl, ⟨_, _, [], rfl, (HCOLS.out.keep hfin (fun b _ q => q.2.2.2)).mono (fun b _ q => q.1), by simp [HX.out], ?_, fun j x u hx => by rw [HX.out] at hx; simp at hx⟩, HFR2.out.trans hfin (fun i hi q => absurd hi (by omega))⟩
      · exact results_cell_row rfl _ _ _ 41 _ _ _ rfl hh Try.underlying41 rfl (by kernel_rfl)
      · rw [HX.out]
        exact ⟨⟨A2, c2, rfl, Nat.zero_le _, rfl, by simp [icells], fun j u hj => by simp [icells] at hj⟩, fun q => absurd rfl q⟩
  · obtain ⟨g, cap, hv, hb, hs, hc⟩ := owns_form HROW.out (by omega)
    injection hv with hv1 hv2 hv3
    subst hv1 hv3
    have HO := Lib.hid (show OwnR w K t svs w.heap.size g c2 (.slice A1 t.cols.length c1) 0 svs w3 from
      ⟨HFR2.out, HRES.out, HBOX.out, HCOLS.out.mono (fun b _ q => ⟨q.1, by omega, q.2.2.2⟩), HROW.out.mono (by omega), HI.out.len, by omega, by omega, Nat.le_refl _, fun j _ _ hj => by omega, fun j _ => rfl⟩)
    clear hz HROW HCOLS HFR2 HRES HBOX
    go_loopw [15] (fun u15 wr => ∃ (k : Nat) (svk : List Value), u15 = .int .i64 k ∧ k ≤ t.idx.length ∧ Hid (OwnR w K t svs w.heap.size g c2 (.slice A1 t.cols.length c1) k svk wr)) (fun i _ => t.idx.length - (intOf i).toNat)
    case atStart => exact ⟨0, svs, rfl, Nat.zero_le _, HO⟩
    case round =>
      clear HO
      obtain ⟨k, svk, rfl, hk, HO⟩ := hrel
      obtain ⟨z0, z1, z2, z3, z4⟩ := cells4 HO.out.box
      by_cases hlt : k < t.idx.length
      · obtain ⟨x, hx⟩ : ∃ x, t.idx[k]? = some x := ⟨_, List.getElem?_eq_getElem hlt⟩
        obtain ⟨u, hu⟩ : ∃ u, svs[k]? = some u := ⟨_, List.getElem?_eq_getElem (by rw [HI.out.len]; omega)⟩
        obtain ⟨q1, q2, q3⟩ := icells_at t.idx svk k x u hx (by rw [HO.out.old k (Nat.le_refl _), hu])
        have hs0 := (HI.out.each k x u hx hu).keep HO.out.fr (fun _ _ _ z => z)
        obtain ⟨As, cs, rfl, hcs⟩ := hs0.rc.form
        have HS := Lib.hid hs0
        have g1 := owns_at HO.out.row q2
        have g2 := HO.out.row.frozenAt (k * 3 + 1)
        have hxk := hxl x (List.mem_of_getElem? hx)
        have HX := Lib.hid hx
        have t1 : decide ((k : Int) < (t.idx.length : Int)) = true := by simp; omega
        have t2 : decide (k < t.idx.length) = true := by simp; omega
        have i1 : (0 : Int) ≤ (k : Int) := by omega
        have i2 : (k : Int) < (t.idx.length : Int) := by omega
        have i3 : (t.idx.length : Int) ≤ (c2 : Int) := by omega
        clear q1 q2 q3 hx hu hs0
        go_wp2_with fail
        have hpg : w.heap.size ≠ g := HO.out.pg
        go_region_with (first | (go_at_call 86; go_loud (refine (clone86_any _ _ _ _ (HS.out.rc.keep (Fr.drew (Fr.refl no wr)) (fun _ _ z => z)) hxk).mono ?_; rintro e w4 ⟨r, rfl, ho4, hf4⟩; obtain ⟨A4, c4, rfl⟩ := owns_slice ho4; have g4 := hf4.cell (show wr.drew.cell? _ = _ from g1) id; have g5 := hf4.cell (show wr.drew.cell? _ = _ from z3) id; have g6 : w4.frozen? ⟨g, k * 3 + 1, none⟩ = false := (hf4.owns (show wr.drew.ownsRow _ _ _ _ _ _ from HO.out.row) (fun _ _ q => q)).frozenAt _)))
        all_goals go_wp2
        all_goals
          go_roundw
          case rel => exact ⟨k + 1, svk.set k (.slice A4 x.cols.length c4), by go_num, by omega, Lib.hid (HO.out.step HX.out (show Fr no wr w4 from ((Fr.refl no wr).drew).trans hf4 (fun _ _ z => z)) ho4 rfl)⟩
          case measure => simp [intOf]; omega
      · obtain rfl : k = t.idx.length := by omega
        obtain ⟨r0, r1, r2, r3, r4⟩ := cells4 HO.out.res
        have rf0 := free_at HO.out.res 0
        have rf1 := free_at HO.out.res 1
        have rf2 := free_at HO.out.res 2
        have rf3 := free_at HO.out.res 3
        have t1 : decide ((t.idx.length : Int) < (t.idx.length : Int)) = false := by simp
        have t2 : decide (t.idx.length < t.idx.length) = false := by simp
        go_wp2_with fail
        have hfin := fr_set4 wr (w.heap.size + 1) (.string t.name) (.slice A1 t.cols.length c1) (.int .i64 t.key) (.slice (some ⟨g, 0, none⟩) t.idx.length c2)
        have hh := heap_setCell_at (heap_setCell_at (heap_setCell_at (heap_setCell_at HO.out.res 0 (.string t.name)) 1 (.slice A1 t.cols.length c1)) 2 (.int .i64 t.key)) 3 (.slice (some ⟨g, 0, none⟩) t.idx.length c2)
        simp only [List.setIfInBounds_toArray, List.set_cons_zero, List.set_cons_succ] at hh
        obtain ⟨v0, v1, v2, v3, v4⟩ := cells4 hh
        obtain ⟨d1, d2⟩ := HO.out.done hfin
        refine bodyPost_ret (v := .agg #[.string t.name, .slice A1 t.cols.length c1, .int .i64 t.key, .slice (some ⟨g, 0, none⟩) t.idx.length c2]) ?_ rfl ⟨_, rfl, d1, d2⟩
        exact results_cell_row rfl _ _ _ 41 _ _ _ rfl hh Try.underlying41 rfl (by kernel_rfl)
end Go.Proofs.Ythmjjbgjbcnjmaa

namespace Go.Proofs.Ythmjjbgjbcnjmaa
open Go.RowKit Go.Hop

/-! ### A catalogue -/
abbrev Cat := List (ByteArray × Tab)
def ccreate (l : Cat) (t : Tab) : Int × Cat := if checkT t = false then (140, l) else if get l t.name ≠ none then (6, l) else if 4096 ≤ l.length then (2, l) else (0, sput l t.name t)
def cdrop (l : Cat) (n : ByteArray) : Int × Cat := if get l n = none then (141, l) else (0, del l n)
abbrev ME := ByteArray × (Value × Tab)
structure IsC (w : World) (K : Nat → Prop) (a m : Nat) (l : Cat) : Prop where
  blk : w.heap[a]? = some (.cells #[.map (some m)] 89 (0, 0))
  map : ∃ ml : List ME, MapIs w m (mapv Prod.fst ml) ∧ Rel (mapv Prod.snd ml) l ∧ ∀ e ∈ ml, TabAt w K e.2.1 e.2.2
  ne : a ≠ m
  nk : ¬ K m
  few : l.length ≤ 4096
  good : ∀ p ∈ l, checkT p.2 = true ∧ p.1 = p.2.name ∧ TabFit p.2
theorem IsC.keep {S K : Nat → Prop} {w w' : World} {a m : Nat} {l : Cat} (h : IsC w K a m l) (hf : Fr S w w') (ha : ¬ S a) (hm : ¬ S m) (hs : ∀ k, k < w.heap.size → K k → ¬ S k) : IsC w' K a m l := by
  obtain ⟨ml, h1, h2, h3⟩ := h.map
  exact ⟨hf.keep h.blk ha, ⟨ml, h1.keep hf hm, h2, fun e he => (h3 e he).keep hf hs⟩, h.ne, h.nk, h.few, h.good⟩
theorem IsC.later {K : Nat → Prop} {w w' : World} {a m : Nat} {l : Cat} (h : IsC w K a m l) (hf : Fr no w w') : IsC w' K a m l := h.keep hf id id (fun _ _ _ q => q)
theorem IsC.lt {K : Nat → Prop} {w : World} {a m : Nat} {l : Cat} (h : IsC w K a m l) : a < w.heap.size ∧ m < w.heap.size := by
  obtain ⟨ml, h1, _⟩ := h.map
  exact ⟨heap_lt h.blk, h1.lt⟩
def zeroT : Value := .agg #[.string ⟨#[]⟩, .slice none 0 0, .int .i64 0, .slice none 0 0]
theorem zero41 (w : World) : (zeroValue 41).run Try.prog w = .ok (.agg #[.string ⟨#[]⟩, .slice none 0 0, .int .i64 0, .slice none 0 0]) w := by kernel_rfl

theorem cnew_any (K : Nat → Prop) (w : World) (hk : ¬ K w.heap.size) : Calls Try.prog 15 #[] w fun e w' => e = .returned (.pointer (some ⟨w.heap.size + 1, 0, none⟩)) ∧ IsC w' K (w.heap.size + 1) w.heap.size [] ∧ Fr no w w' := by
  have hmm := @run_makeMap Try.prog
  go_enter Try.func15, Try.ntmps15
  go_wp2
  go_ret
  refine ⟨rfl, ⟨?_, ⟨[], ?_, Rel.nil, by simp⟩, by omega, hk, by simp, by simp⟩, ((Fr.refl _ _).alloc _).alloc _⟩
  · have := heap_alloc_at (w.alloc (.map #[] 0)) (.cells #[.map (some w.heap.size)] 89)
    simpa using this
  · exact (MapIs.made w).keep ((Fr.refl no _).alloc _) id

/-- what the map holds at a name -/
theorem IsC.at_ {w : World} {K : Nat → Prop} {l : Cat} {ml : List ME} (h2 : Rel (mapv Prod.snd ml) l) (h3 : ∀ e ∈ ml, TabAt w K e.2.1 e.2.2) (n : ByteArray) :
    (get l n = none ∧ get (mapv Prod.fst ml) n = none) ∨ ∃ t A1 n1 c1 A2 n2 c2, get l n = some t ∧ TabAt w K (.agg #[.string t.name, .slice A1 n1 c1, .int .i64 t.key, .slice A2 n2 c2]) t ∧ get (mapv Prod.fst ml) n = some (.agg #[.string t.name, .slice A1 n1 c1, .int .i64 t.key, .slice A2 n2 c2]) := by
  have e := h2.eq n
  rw [get_mapv] at e
  rw [get_mapv]
  cases hg : get ml n with
  | none => rw [hg] at e; exact .inl ⟨e.symm, rfl⟩
  | some x =>
    rw [hg] at e
    have ht := h3 (n, x) (get_some_mem hg)
    obtain ⟨vc, vi, svs, hv, hc, hi⟩ := ht.ex
    obtain ⟨A1, c1, rfl, _⟩ := hc.rc.form
    obtain ⟨A2, c2, rfl, _⟩ := hi.row.rc.form
    have hv' : x.1 = _ := hv
    refine .inr ⟨x.2, A1, x.2.cols.length, c1, A2, x.2.idx.length, c2, e.symm, ?_, ?_⟩
    · have h5 : TabAt w K x.1 x.2 := ht
      rwa [hv'] at h5
    · rw [Option.map_some, hv']

set_option maxHeartbeats 1000000 in
set_option maxRecDepth 100000 in
theorem cdrop_any (K : Nat → Prop) (a m : Nat) (l : Cat) (n : ByteArray) (w : World) (h : IsC w K a m l) :
    Calls Try.prog 18 #[.pointer (some ⟨a, 0, none⟩), .string n] w fun e w' => e = .returned (.int .i64 (cdrop l n).1) ∧ IsC w' K a m (cdrop l n).2 ∧ Fr (fun k => k = m) w w' := by
  obtain ⟨ml, hm, hrel, htab⟩ := h.map
  have hc0 : w.cell? ⟨a, 0, none⟩ = some (.map (some m)) := cells_at h.blk 0 _ rfl
  have hlt := h.lt
  have hl1 := hlt.1
  have hne : a ≠ w.heap.size := by omega
  have H := Lib.hid h
  have HR := Lib.hid hrel
  have HT := Lib.hid htab
  rcases IsC.at_ hrel htab n with ⟨g1, g2⟩ | ⟨t, A1, n1, c1, A2, n2, c2, g1, g2, g3⟩
  · have Hr := Lib.hid (show cdrop l n = (141, l) by simp [cdrop, g1])
    have G2 := Lib.hid g2
    clear h hrel htab g1 g2
    go_enter Try.func18, Try.ntmps18
    go_wp2_with (first | (at_lookup; go_loud (refine wp_look rfl _ _ _ rfl hm Try.underlying87 Try.underlying9 zero41 rfl _ rfl ?_; rw [G2.out])) | fail)
    go_ret
    rw [Hr.out]
    have hf := (Fr.refl no w).alloc (.cells #[.string ⟨#[]⟩, .slice none 0 0, .int .i64 0, .slice none 0 0] 41)
    exact ⟨rfl, H.out.later hf, hf.mono (fun _ _ q => q.elim)⟩
  · have Hr := Lib.hid (show cdrop l n = (0, del l n) by simp [cdrop, g1])
    have G3 := Lib.hid g3
    clear h hrel htab g1 g2 g3
    go_enter Try.func18, Try.ntmps18
    go_wp2_with (first | (at_lookup; go_loud (refine wp_look rfl _ _ _ rfl hm Try.underlying87 Try.underlying9 zero41 rfl _ rfl ?_; rw [G3.out])) | (at_delete; go_loud (refine wp_drop rfl _ _ rfl (hm.keep ((Fr.refl no _).alloc _) id) Try.underlying87 Try.underlying9 rfl _ rfl ?_; intro w2 hm2 hf2)) | fail)
    go_ret
    rw [Hr.out]
    have hf := (Fr.refl no w).alloc (.cells #[.string t.name, .slice A1 n1 c1, .int .i64 t.key, .slice A2 n2 c2] 41)
    refine ⟨rfl, ⟨hf2.keep (hf.keep H.out.blk id) H.out.ne, ⟨del ml n, ?_, ?_, fun e he => ?_⟩, H.out.ne, H.out.nk, ?_, ?_⟩, (hf.mono (fun _ _ q => q.elim)).trans hf2 (fun _ _ q => q)⟩
    · rw [← del_mapv]; exact hm2
    · rw [← del_mapv]; exact HR.out.del n
    · exact ((HT.out e ((sub_del _ _).subset he)).keep hf (fun _ _ _ q => q)).keep hf2 (fun k _ q z => H.out.nk (z ▸ q))
    · exact Nat.le_trans (sub_del _ _).length_le H.out.few
    · exact fun p hp => H.out.good p ((sub_del _ _).subset hp)
end Go.Proofs.Ythmjjbgjbcnjmaa

/-
  Catalogues in plain Lean: in whatever order schemas are created. No program's step stands here.
-/
namespace Go.Proofs.Ythmjjbgjbcnjmaa
open Go.RowKit Go.Hop

theorem srt_ext {β : Type} : ∀ {l l' : List (ByteArray × β)}, Srt l → Srt l' → (∀ k, Hop.get l k = Hop.get l' k) → l = l'
  | [], [], _, _, _ => rfl
  | [], (a, b) :: t, _, _, h => by have := h a; simp [Hop.get] at this
  | (a, b) :: t, [], _, _, h => by have := h a; simp [Hop.get] at this
  | (a, b) :: t, (a', b') :: t', h1, h2, h => by
    have s1 := List.pairwise_cons.1 h1
    have s2 := List.pairwise_cons.1 h2
    have ea : a = a' := by
      by_cases e : a = a'
      · exact e
      · exfalso
        by_cases q : bl a < bl a'
        · have := h a
          have g0 : Hop.get ((a', b') :: t') a = none := get_above (fun z hz => by
            rcases List.mem_cons.1 hz with rfl | hz
            · exact q
            · exact lt_trans' q (s2.1 z hz))
          rw [g0] at this
          simp [Hop.get] at this
        · have q' := lt_tri a a' e q
          have := h a'
          have g0 : Hop.get ((a, b) :: t) a' = none := get_above (fun z hz => by
            rcases List.mem_cons.1 hz with rfl | hz
            · exact q'
            · exact lt_trans' q' (s1.1 z hz))
          rw [g0] at this
          simp [Hop.get] at this
    subst ea
    have eb : b = b' := by have := h a; simpa [Hop.get] using this
    subst eb
    have et : t = t' := srt_ext s1.2 s2.2 (fun k => by
      have hk := h k
      simp only [Hop.get] at hk
      by_cases e : a = k
      · subst e
        rw [get_above (fun z hz => s1.1 z hz), get_above (fun z hz => s2.1 z hz)]
      · rwa [if_neg e, if_neg e] at hk)
    rw [et]

theorem len_sput' {β : Type} (l : List (ByteArray × β)) (k : ByteArray) (v : β) : (sput l k v).length ≤ l.length + 1 := by
  induction l with
  | nil => simp [sput]
  | cons p t ih =>
    obtain ⟨a, b⟩ := p
    simp only [sput]
    split
    · simp
    · split
      · simp only [List.length_cons]; omega
      · simp

/-! ### Creating many -/
def createAll (c : Cat) (l : List Tab) : Cat := l.foldl (fun c t => (ccreate c t).2) c
def hit (n : ByteArray) (t : Tab) : Bool := decide (t.name = n) && checkT t
theorem srt_create {c : Cat} (h : Srt c) (t : Tab) : Srt (ccreate c t).2 := by
  unfold ccreate
  split
  · exact h
  · split
    · exact h
    · split
      · exact h
      · exact h.sput _ _
theorem len_create (c : Cat) (t : Tab) : (ccreate c t).2.length ≤ c.length + 1 := by
  unfold ccreate
  split
  · exact Nat.le_succ _
  · split
    · exact Nat.le_succ _
    · split
      · exact Nat.le_succ _
      · exact len_sput' _ _ _
theorem get_create {c : Cat} (h : Srt c) (hl : c.length < 4096) (t : Tab) (n : ByteArray) : Hop.get (ccreate c t).2 n = (Hop.get c n).or (if hit n t then some t else none) := by
  unfold ccreate hit
  by_cases h1 : checkT t = false
  · rw [if_pos h1]; simp [h1]
  · rw [if_neg h1]
    have h1' : checkT t = true := by simpa using h1
    by_cases h2 : Hop.get c t.name ≠ none
    · rw [if_pos h2]
      by_cases e : t.name = n
      · subst e
        obtain ⟨x, hx⟩ := Option.ne_none_iff_exists'.1 h2
        simp [hx]
      · simp [e]
    · rw [if_neg h2, if_neg (by omega)]
      have h2' : Hop.get c t.name = none := by simpa using h2
      show Hop.get (sput c t.name t) n = _
      rw [get_sput h]
      by_cases e : t.name = n
      · subst e
        simp [h2', h1']
      · simp [e]
theorem createAll_srt : ∀ (l : List Tab) {c : Cat}, Srt c → Srt (createAll c l)
  | [], _, h => h
  | t :: l, _, h => createAll_srt l (srt_create h t)
theorem createAll_len : ∀ (l : List Tab) (c : Cat), (createAll c l).length ≤ c.length + l.length
  | [], _ => Nat.le_refl _
  | t :: l, c => by
    have h1 := createAll_len l (ccreate c t).2
    have h2 := len_create c t
    show (createAll (ccreate c t).2 l).length ≤ _
    simp only [List.length_cons]; omega
theorem get_createAll : ∀ (l : List Tab) {c : Cat}, Srt c → c.length + l.length ≤ 4096 → ∀ n, Hop.get (createAll c l) n = (Hop.get c n).or (l.find? (hit n))
  | [], c, _, _, n => by simp [createAll]
  | t :: l, c, h, hl, n => by
    have h2 := len_create c t
    simp only [List.length_cons] at hl
    show Hop.get (createAll (ccreate c t).2 l) n = _
    rw [get_createAll l (srt_create h t) (by omega) n, get_create h (by omega), List.find?_cons]
    cases Hop.get c n <;> cases hit n t <;> simp
theorem find_unique {α : Type} {l l' : List α} {p : α → Bool} (hm : ∀ x, x ∈ l ↔ x ∈ l') (hu : ∀ a ∈ l, ∀ b ∈ l, p a = true → p b = true → a = b) : l.find? p = l'.find? p := by
  cases h : l.find? p with
  | none =>
    rw [List.find?_eq_none] at h
    exact (List.find?_eq_none.2 (fun x hx => h x ((hm x).2 hx))).symm
  | some a =>
    have ha := List.find?_some h
    have hma := List.mem_of_find?_eq_some h
    cases h' : l'.find? p with
    | none =>
      rw [List.find?_eq_none] at h'
      exact absurd ha (h' a ((hm a).1 hma))
    | some b =>
      have hb := List.find?_some h'
      have hmb := (hm b).2 (List.mem_of_find?_eq_some h')
      rw [hu a hma b hmb ha hb]
theorem eq_of_nodup_map {α β : Type} {f : α → β} : ∀ {l : List α}, (l.map f).Nodup → ∀ {a b : α}, a ∈ l → b ∈ l → f a = f b → a = b
  | [], _, _, _, ha, _, _ => by cases ha
  | x :: l, h, a, b, ha, hb, e => by
    rw [List.map_cons, List.nodup_cons] at h
    rcases List.mem_cons.1 ha with ea | ha1
    · rcases List.mem_cons.1 hb with eb | hb1
      · rw [ea, eb]
      · exact absurd (List.mem_map.2 ⟨b, hb1, by rw [← e, ea]⟩) h.1
    · rcases List.mem_cons.1 hb with eb | hb1
      · exact absurd (List.mem_map.2 ⟨a, ha1, by rw [e, eb]⟩) h.1
      · exact eq_of_nodup_map h.2 ha1 hb1 e
theorem order_law (l : List Tab) (x : Tab) (hn : (l.map Tab.name).Nodup) (hd : ∀ t ∈ l, t.name ≠ x.name) (hl : l.length ≤ 20) :
    (cdrop (createAll (ccreate [] x).2 l.reverse) x.name).2 = createAll [] l ∧ ((cdrop (createAll (ccreate [] x).2 l.reverse) x.name).1 = 0 ↔ (ccreate [] x).1 = 0) := by
  have s0 : Srt ([] : Cat) := List.Pairwise.nil
  have s1 : Srt (ccreate [] x).2 := srt_create s0 x
  have l1 : (ccreate [] x).2.length ≤ 1 := len_create [] x
  have s2 : Srt (createAll (ccreate [] x).2 l.reverse) := createAll_srt _ s1
  have sA : Srt (createAll [] l) := createAll_srt _ s0
  have gA : ∀ n, Hop.get (createAll [] l) n = l.find? (hit n) := fun n => by
    rw [get_createAll l s0 (by simp; omega)]; simp [Hop.get]
  have gB : ∀ n, Hop.get (createAll (ccreate [] x).2 l.reverse) n = (if hit n x then some x else none).or (l.find? (hit n)) := fun n => by
    rw [get_createAll _ s1 (by simp; omega), get_create s0 (by simp)]
    have : l.reverse.find? (hit n) = l.find? (hit n) := find_unique (fun y => List.mem_reverse) (fun a ha b hb h1 h2 => by
      have e : a.name = b.name := by
        simp only [hit, Bool.and_eq_true, decide_eq_true_eq] at h1 h2
        rw [h1.1, h2.1]
      have ha' := List.mem_reverse.1 ha
      have hb' := List.mem_reverse.1 hb
      exact eq_of_nodup_map hn ha' hb' e)
    rw [this]
    simp [Hop.get]
  have gx : l.find? (hit x.name) = none := List.find?_eq_none.2 (fun t ht => by simp [hit, hd t ht])
  have hx : Hop.get (createAll (ccreate [] x).2 l.reverse) x.name = if checkT x = true then some x else none := by
    rw [gB, gx]; simp [hit]
  have e1 : (ccreate [] x).1 = 0 ↔ checkT x = true := by
    unfold ccreate
    cases checkT x <;> simp [Hop.get]
  unfold cdrop
  cases hc : checkT x with
  | false =>
    rw [hc] at hx
    rw [if_pos (by simpa using hx)]
    refine ⟨srt_ext s2 sA (fun n => ?_), ?_⟩
    · rw [gB, gA]; simp [hit, hc]
    · rw [e1, hc]; simp
  | true =>
    rw [hc] at hx
    rw [if_neg (by rw [hx]; simp)]
    refine ⟨srt_ext (s2.del _) sA (fun n => ?_), ?_⟩
    · rw [get_del s2.nodup, gB, gA]
      by_cases e : x.name = n
      · subst e; simp [gx]
      · simp [hit, e]
    · rw [e1, hc]; simp
end Go.Proofs.Ythmjjbgjbcnjmaa

/-
  Schemas and catalogues as bytes, in plain Lean: what is written, what is read, there and back. No program's step stands here.
-/
namespace Go.Proofs.Ythmjjbgjbcnjmaa
open Go.RowKit Go.Hop

/-! ### Written -/
def leN : Nat → Nat → List UInt8
  | 0, _ => []
  | k + 1, n => UInt8.ofNat n :: leN k (n / 256)
def textB (s : ByteArray) : List UInt8 := leN 8 s.size ++ bl s
def colB (c : Col) : List UInt8 := textB c.1 ++ leN 8 c.2.toNat
def numsB (l : List Int) : List UInt8 := l.flatMap (fun n => leN 8 n.toNat)
def ixB (x : Ix) : List UInt8 := textB x.name ++ (leN 8 x.cols.length ++ numsB x.cols) ++ [if x.uniq then 1 else 0]
def tabB (t : Tab) : List UInt8 := textB t.name ++ (leN 8 t.cols.length ++ t.cols.flatMap colB) ++ leN 8 t.key.toNat ++ (leN 8 t.idx.length ++ t.idx.flatMap ixB)
def catB (l : Cat) : List UInt8 := l.flatMap (fun p => tabB p.2)
def cenc (l : Cat) : ByteArray × Int := if 262144 < (catB l).length then (⟨#[]⟩, 2) else (⟨(catB l).toArray⟩, 0)

theorem leN_length : ∀ (k n : Nat), (leN k n).length = k
  | 0, _ => rfl
  | k + 1, n => by simp [leN, leN_length k]
theorem leN_snoc : ∀ (k n : Nat), leN (k + 1) n = leN k n ++ [UInt8.ofNat (n / 256 ^ k)]
  | 0, n => by simp [leN]
  | k + 1, n => by
    rw [leN, leN_snoc k (n / 256), leN, Nat.div_div_eq_div_mul, show 256 * 256 ^ k = 256 ^ (k + 1) by rw [Nat.pow_succ, Nat.mul_comm]]
    rfl

/-! ### Read -/
structure RS where
  b : ByteArray
  bad : Bool
def le64 (l : List UInt8) : Nat := l.foldr (fun c n => c.toNat + 256 * n) 0
def toI64 (n : Nat) : Int := if n < 9223372036854775808 then (n : Int) else (n : Int) - 18446744073709551616
def rtake (s : RS) (many : Int) : ByteArray × RS :=
  if s.bad = true ∨ many < 0 ∨ (s.b.size : Int) < many then (⟨#[]⟩, ⟨s.b, true⟩) else (s.b.extract 0 many.toNat, ⟨s.b.extract many.toNat s.b.size, false⟩)
def rnum (s : RS) : Int × RS := (toI64 (le64 (bl (rtake s 8).1)), (rtake s 8).2)
def rtext (s : RS) : ByteArray × RS := rtake (rnum s).2 (rnum s).1
def rflag (s : RS) : Bool × RS :=
  if (rtake s 1).2.bad = true ∨ 1 < ((bl (rtake s 1).1).headD 0).toNat then (false, ⟨(rtake s 1).2.b, true⟩) else (decide ((bl (rtake s 1).1).headD 0 = 1), (rtake s 1).2)
section
variable {α : Type}
def rlistN (each : RS → α × RS) : Nat → RS → List α × RS
  | 0, s => ([], s)
  | k + 1, s => if s.bad = true then ([], s) else ((each s).1 :: (rlistN each k (each s).2).1, (rlistN each k (each s).2).2)
def rlist (each : RS → α × RS) (s : RS) : List α × RS :=
  if (rnum s).2.bad = true ∨ (rnum s).1 < 0 ∨ 4096 < (rnum s).1 then ([], ⟨(rnum s).2.b, true⟩) else rlistN each (rnum s).1.toNat (rnum s).2
end
def rcol (s : RS) : Col × RS := (((rtext s).1, (rnum (rtext s).2).1), (rnum (rtext s).2).2)
def rixflag (s : RS) : Bool × RS := if s.bad = true then (false, s) else rflag s
def rix (s : RS) : Ix × RS :=
  (⟨(rtext s).1, (rlist rnum (rtext s).2).1, (rixflag (rlist rnum (rtext s).2).2).1⟩, (rixflag (rlist rnum (rtext s).2).2).2)
def rtab (s : RS) : Tab × RS :=
  (⟨(rtext s).1, (rlist rcol (rtext s).2).1, (rnum (rlist rcol (rtext s).2).2).1, (rlist rix (rnum (rlist rcol (rtext s).2).2).2).1⟩, (rlist rix (rnum (rlist rcol (rtext s).2).2).2).2)
/-- what bytes are as a catalogue: so many schemas at most -/
def cdecN : Nat → ByteArray → ByteArray → Cat → Option Cat
  | 0, b, _, c => if b.size = 0 then some c else none
  | k + 1, b, last, c => if b.size = 0 then some c else
    if (rtab ⟨b, false⟩).2.bad = true ∨ ¬ bl last < bl (rtab ⟨b, false⟩).1.name ∨ (ccreate c (rtab ⟨b, false⟩).1).1 ≠ 0 then none
    else cdecN k (rtab ⟨b, false⟩).2.b (rtab ⟨b, false⟩).1.name (ccreate c (rtab ⟨b, false⟩).1).2
def cdec (b : ByteArray) : Option Cat × Int :=
  if 262144 < b.size then (none, 2) else match cdecN b.size b ⟨#[]⟩ [] with
  | some c => (some c, 0)
  | none => (none, 3)

/-! ### Numbers there and back -/
theorem u8_ofNat (n : Nat) : (UInt8.ofNat n).toNat = n % 256 := by simp
theorem le64_leN : ∀ (k n : Nat), n < 256 ^ k → le64 (leN k n) = n
  | 0, n, h => by simp at h; subst h; rfl
  | k + 1, n, h => by
    have h1 : n / 256 < 256 ^ k := by rw [Nat.pow_succ] at h; exact Nat.div_lt_of_lt_mul (by omega)
    have ih := le64_leN k (n / 256) h1
    show (UInt8.ofNat n).toNat + 256 * le64 (leN k (n / 256)) = n
    rw [ih, u8_ofNat]; omega
theorem leN_le64 : ∀ (l : List UInt8), leN l.length (le64 l) = l
  | [] => rfl
  | c :: l => by
    have ih := leN_le64 l
    have h := c.toNat_lt
    show UInt8.ofNat (c.toNat + 256 * le64 l) :: leN l.length ((c.toNat + 256 * le64 l) / 256) = _
    rw [show (c.toNat + 256 * le64 l) / 256 = le64 l by omega, ih]
    congr 1
    apply UInt8.toNat_inj.1
    rw [u8_ofNat]; omega
theorem le64_lt : ∀ (l : List UInt8), le64 l < 256 ^ l.length
  | [] => by simp [le64]
  | c :: l => by
    have ih := le64_lt l
    have h := c.toNat_lt
    show c.toNat + 256 * le64 l < 256 ^ (l.length + 1)
    rw [Nat.pow_succ]; omega
theorem bl_take (s : ByteArray) (n : Nat) : bl (s.extract 0 n) = (bl s).take n := by
  simp [bl, ByteArray.extract, ByteArray.copySlice, List.extract, List.drop_zero]
theorem bl_drop (s : ByteArray) (n : Nat) (h : n ≤ s.size) : bl (s.extract n s.size) = (bl s).drop n := by
  have e : s.data.toList.length = s.size := by simp
  simp [bl, List.extract]
  rw [List.take_of_length_le]
  rw [List.length_drop, e]
  exact Nat.le_refl _
theorem bl_len (s : ByteArray) : (bl s).length = s.size := by simp [bl]

/-- these bytes lie ahead -/
def Ahead (s : RS) (l : List UInt8) : Prop := s.bad = false ∧ bl s.b = l
theorem rtake_put {s : RS} {l r : List UInt8} (h : Ahead s (l ++ r)) {n : Int} (hn : n = l.length) : bl (rtake s n).1 = l ∧ Ahead (rtake s n).2 r := by
  obtain ⟨h1, h2⟩ := h
  have hl := bl_len s.b
  rw [h2, List.length_append] at hl
  unfold rtake
  rw [if_neg (by rw [h1]; simp; omega)]
  subst hn
  refine ⟨?_, rfl, ?_⟩
  · rw [bl_take, h2]; simp
  · rw [Int.toNat_natCast, bl_drop _ _ (by omega), h2]; simp
theorem toI64_nat {n : Nat} (h : n < 9223372036854775808) : toI64 n = n := if_pos h
theorem rnum_put {s : RS} {n : Nat} {r : List UInt8} (h : Ahead s (leN 8 n ++ r)) (hn : n < 9223372036854775808) : (rnum s).1 = n ∧ Ahead (rnum s).2 r := by
  obtain ⟨h1, h2⟩ := rtake_put h (n := 8) (by rw [leN_length]; rfl)
  refine ⟨?_, h2⟩
  show toI64 (le64 (bl (rtake s 8).1)) = n
  rw [h1, le64_leN 8 n (by omega), toI64_nat hn]
theorem rtext_put {s : RS} {x : ByteArray} {r : List UInt8} (h : Ahead s (textB x ++ r)) (hx : x.size < 9223372036854775808) : (rtext s).1 = x ∧ Ahead (rtext s).2 r := by
  rw [textB, List.append_assoc] at h
  obtain ⟨h1, h2⟩ := rnum_put h hx
  obtain ⟨h3, h4⟩ := rtake_put h2 (n := (rnum s).1) (by rw [h1, bl_len])
  exact ⟨bl_inj h3, h4⟩
theorem rflag_put {s : RS} {u : Bool} {r : List UInt8} (h : Ahead s ([if u then 1 else 0] ++ r)) : (rflag s).1 = u ∧ Ahead (rflag s).2 r := by
  obtain ⟨h1, h2⟩ := rtake_put h (n := 1) rfl
  unfold rflag
  rw [h1]
  cases u <;> rw [if_neg (by rw [h2.1]; simp)] <;> exact ⟨rfl, h2⟩
section
variable {α : Type}
theorem rlistN_put {each : RS → α × RS} {enc : α → List UInt8} : ∀ {l : List α} {s : RS} {r : List UInt8}, (∀ x ∈ l, ∀ s r, Ahead s (enc x ++ r) → (each s).1 = x ∧ Ahead (each s).2 r) → Ahead s (l.flatMap enc ++ r) → (rlistN each l.length s).1 = l ∧ Ahead (rlistN each l.length s).2 r
  | [], s, r, _, h => ⟨rfl, h⟩
  | x :: l, s, r, he, h => by
    rw [List.flatMap_cons, List.append_assoc] at h
    obtain ⟨h1, h2⟩ := he x List.mem_cons_self _ _ h
    obtain ⟨h3, h4⟩ := rlistN_put (l := l) (fun y hy => he y (List.mem_cons_of_mem _ hy)) h2
    have hb := h.1
    simp only [List.length_cons, rlistN]
    rw [if_neg (by rw [hb]; simp)]
    exact ⟨by rw [h1, h3], h4⟩
theorem rlist_put {each : RS → α × RS} {enc : α → List UInt8} {l : List α} {s : RS} {r : List UInt8} (he : ∀ x ∈ l, ∀ s r, Ahead s (enc x ++ r) → (each s).1 = x ∧ Ahead (each s).2 r) (hl : l.length ≤ 4096) (h : Ahead s ((leN 8 l.length ++ l.flatMap enc) ++ r)) :
    (rlist each s).1 = l ∧ Ahead (rlist each s).2 r := by
  rw [List.append_assoc] at h
  obtain ⟨h1, h2⟩ := rnum_put h (by omega)
  unfold rlist
  rw [if_neg (by rw [h2.1, h1]; simp; omega), h1, Int.toNat_natCast]
  exact rlistN_put he h2
end
/-- what a schema that may be has -/
theorem check_parts {t : Tab} (h : checkT t = true) : (namedS t.name = true ∧ 1 ≤ t.cols.length ∧ t.cols.length ≤ 32 ∧ 1 ≤ t.key ∧ t.key ≤ t.cols.length ∧ t.idx.length ≤ 8) ∧ (∀ c ∈ t.cols, namedS c.1 = true ∧ 1 ≤ c.2 ∧ c.2 ≤ 5) ∧ (∀ x ∈ t.idx, namedS x.name = true ∧ 1 ≤ x.cols.length ∧ x.cols.length ≤ 32 ∧ ∀ n ∈ x.cols, 0 ≤ n ∧ n < t.cols.length) := by
  simp only [checkT, Bool.and_eq_true, List.all_eq_true, inside, decide_eq_true_eq, distB] at h
  obtain ⟨⟨⟨⟨⟨⟨⟨h1, h2⟩, h3⟩, h4⟩, h5⟩, h6⟩, h7⟩, h8⟩ := h
  refine ⟨⟨h1, by omega, by omega, h3.1, h3.2, h4⟩, fun c hc => ⟨h5.1 _ (List.mem_map.2 ⟨c, hc, rfl⟩), (h7 c hc).1, (h7 c hc).2⟩, fun x hx => ⟨h6.1 _ (List.mem_map.2 ⟨x, hx, rfl⟩), ?_, ?_, fun n hn => ?_⟩⟩
  · have := (h8 x hx).1.1; omega
  · have := (h8 x hx).1.2; omega
  · have := (h8 x hx).2 n hn; omega
theorem namedS_size {s : ByteArray} (h : namedS s = true) : 0 < s.size ∧ s.size ≤ 32 := by
  simp only [namedS, Bool.and_eq_true, decide_eq_true_eq] at h
  exact ⟨h.1, h.2.1⟩
theorem rcol_put {c : Col} (h1 : namedS c.1 = true) (h2 : 0 ≤ c.2) (h3 : c.2 ≤ 5) {s : RS} {r : List UInt8} (h : Ahead s (colB c ++ r)) : (rcol s).1 = c ∧ Ahead (rcol s).2 r := by
  rw [colB, List.append_assoc] at h
  obtain ⟨q1, q2⟩ := rtext_put h (by have := namedS_size h1; omega)
  obtain ⟨q3, q4⟩ := rnum_put q2 (by omega)
  refine ⟨?_, q4⟩
  show ((rtext s).1, (rnum (rtext s).2).1) = c
  rw [q1, q3, show ((c.2.toNat : Nat) : Int) = c.2 by omega]
theorem rix_put {x : Ix} (h1 : namedS x.name = true) (h2 : x.cols.length ≤ 32) (h3 : ∀ n ∈ x.cols, 0 ≤ n ∧ n < 33) {s : RS} {r : List UInt8} (h : Ahead s (ixB x ++ r)) : (rix s).1 = x ∧ Ahead (rix s).2 r := by
  rw [ixB, List.append_assoc, List.append_assoc] at h
  obtain ⟨q1, q2⟩ := rtext_put h (by have := namedS_size h1; omega)
  obtain ⟨q3, q4⟩ := rlist_put (each := rnum) (enc := fun n : Int => leN 8 n.toNat) (l := x.cols) (fun n hn s r hs => by
    obtain ⟨z1, z2⟩ := rnum_put hs (by have := h3 n hn; omega)
    exact ⟨by rw [z1]; have := h3 n hn; omega, z2⟩) (by omega) q2
  have e : rixflag (rlist rnum (rtext s).2).2 = rflag (rlist rnum (rtext s).2).2 := by rw [rixflag, q4.1]; rfl
  obtain ⟨q5, q6⟩ := rflag_put q4
  unfold rix
  rw [e]
  exact ⟨by rw [q1, q3, q5], q6⟩
theorem rtab_put {t : Tab} (hc : checkT t = true) {s : RS} {r : List UInt8} (h : Ahead s (tabB t ++ r)) : (rtab s).1 = t ∧ Ahead (rtab s).2 r := by
  obtain ⟨⟨c1, c2, c3, c4, c5, c6⟩, c7, c8⟩ := check_parts hc
  rw [tabB, List.append_assoc, List.append_assoc, List.append_assoc] at h
  obtain ⟨q1, q2⟩ := rtext_put h (by have := namedS_size c1; omega)
  obtain ⟨q3, q4⟩ := rlist_put (each := rcol) (enc := colB) (l := t.cols) (fun c hc s r hs => by
    obtain ⟨z1, z2, z3⟩ := c7 c hc
    exact rcol_put z1 (by omega) z3 hs) (by omega) q2
  obtain ⟨q5, q6⟩ := rnum_put q4 (by omega)
  obtain ⟨q7, q8⟩ := rlist_put (each := rix) (enc := ixB) (l := t.idx) (fun x hx s r hs => by
    obtain ⟨z1, z2, z3, z4⟩ := c8 x hx
    exact rix_put z1 z3 (fun n hn => by have := z4 n hn; omega) hs) (by omega) q6
  unfold rtab
  refine ⟨?_, q8⟩
  rw [q1, q3, q5, q7, show ((t.key.toNat : Nat) : Int) = t.key by omega]

/-! ### What is read was written so -/
theorem rtake_get {s : RS} {n : Int} (h : (rtake s n).2.bad = false) : s.bad = false ∧ 0 ≤ n ∧ n ≤ s.b.size ∧ bl s.b = bl (rtake s n).1 ++ bl (rtake s n).2.b ∧ (bl (rtake s n).1).length = n.toNat := by
  unfold rtake at h ⊢
  split at h
  · simp at h
  · next q =>
    rw [if_neg q]
    have hq : s.bad = false ∧ 0 ≤ n ∧ n ≤ s.b.size := by
      refine ⟨by cases hb : s.bad; rfl; exact absurd (.inl hb) q, ?_, ?_⟩
      · have : ¬ n < 0 := fun z => q (.inr (.inl z)); omega
      · have : ¬ (s.b.size : Int) < n := fun z => q (.inr (.inr z)); omega
    refine ⟨hq.1, hq.2.1, hq.2.2, ?_, ?_⟩
    · rw [bl_take, bl_drop _ _ (by omega)]; simp
    · rw [bl_take, List.length_take, bl_len]; omega
theorem rnum_get {s : RS} (h : (rnum s).2.bad = false) : s.bad = false ∧ (0 ≤ (rnum s).1 → bl s.b = leN 8 (rnum s).1.toNat ++ bl (rnum s).2.b) := by
  obtain ⟨h1, h2, h3, h4, h5⟩ := rtake_get (s := s) (n := 8) h
  refine ⟨h1, fun hp => ?_⟩
  have hl := le64_lt (bl (rtake s 8).1)
  have hr := leN_le64 (bl (rtake s 8).1)
  rw [h5] at hl hr
  have e : (rnum s).1.toNat = le64 (bl (rtake s 8).1) := by
    show (toI64 (le64 (bl (rtake s 8).1))).toNat = _
    have hp' : 0 ≤ toI64 (le64 (bl (rtake s 8).1)) := hp
    unfold toI64 at hp' ⊢
    split
    · simp
    · next q => rw [if_neg q] at hp'; simp at hl; omega
  rw [e]
  show bl s.b = leN 8 _ ++ bl (rtake s 8).2.b
  rw [show (8 : Int).toNat = 8 from rfl] at hr
  rw [hr]; exact h4
theorem rtext_get {s : RS} (h : (rtext s).2.bad = false) : s.bad = false ∧ bl s.b = textB (rtext s).1 ++ bl (rtext s).2.b := by
  obtain ⟨h1, h2, h3, h4, h5⟩ := rtake_get (s := (rnum s).2) (n := (rnum s).1) h
  obtain ⟨k1, k2⟩ := rnum_get h1
  refine ⟨k1, ?_⟩
  have e : (rtext s).1.size = (rnum s).1.toNat := by rw [← bl_len]; exact h5
  rw [k2 h2, textB, e, List.append_assoc]
  congr 1
theorem rflag_get {s : RS} (h : (rflag s).2.bad = false) : s.bad = false ∧ bl s.b = [if (rflag s).1 then 1 else 0] ++ bl (rflag s).2.b := by
  unfold rflag at h ⊢
  split at h
  · simp at h
  · next q =>
    rw [if_neg q]
    obtain ⟨h1, h2, h3, h4, h5⟩ := rtake_get h
    refine ⟨h1, ?_⟩
    match hx : bl (rtake s 1).1, h5 with
    | [c], _ =>
      rw [hx] at q h4
      have hc : ¬ 1 < c.toNat := fun z => q (.inr z)
      have : c = 0 ∨ c = 1 := by
        rcases (by omega : c.toNat = 0 ∨ c.toNat = 1) with z | z
        · exact .inl (UInt8.toNat_inj.1 z)
        · exact .inr (UInt8.toNat_inj.1 z)
      rw [h4]
      rcases this with rfl | rfl <;> rfl
section
variable {α : Type}
theorem rlistN_get {each : RS → α × RS} {enc : α → List UInt8} {good : α → Prop} (he : ∀ s, (each s).2.bad = false → good (each s).1 → s.bad = false ∧ bl s.b = enc (each s).1 ++ bl (each s).2.b) :
    ∀ (k : Nat) (s : RS), (rlistN each k s).2.bad = false → (∀ x ∈ (rlistN each k s).1, good x) → s.bad = false ∧ bl s.b = (rlistN each k s).1.flatMap enc ++ bl (rlistN each k s).2.b ∧ (rlistN each k s).1.length = k
  | 0, s, h, _ => ⟨h, rfl, rfl⟩
  | k + 1, s, h, hg => by
    by_cases hb : s.bad = true
    · simp only [rlistN] at h
      rw [if_pos hb] at h
      rw [hb] at h; simp at h
    · simp only [rlistN] at h hg ⊢
      rw [if_neg hb] at h hg ⊢
      obtain ⟨h1, h2, h3⟩ := rlistN_get he k _ h (fun x hx => hg x (List.mem_cons_of_mem _ hx))
      obtain ⟨k1, k2⟩ := he s h1 (hg _ List.mem_cons_self)
      refine ⟨k1, ?_, by simp [h3]⟩
      rw [k2, h2]; simp
theorem rlist_get {each : RS → α × RS} {enc : α → List UInt8} {good : α → Prop} (he : ∀ s, (each s).2.bad = false → good (each s).1 → s.bad = false ∧ bl s.b = enc (each s).1 ++ bl (each s).2.b) {s : RS}
    (h : (rlist each s).2.bad = false) (hg : ∀ x ∈ (rlist each s).1, good x) : s.bad = false ∧ bl s.b = (leN 8 (rlist each s).1.length ++ (rlist each s).1.flatMap enc) ++ bl (rlist each s).2.b := by
  unfold rlist at h hg ⊢
  split at h
  · simp at h
  · next q =>
    rw [if_neg q] at hg ⊢
    obtain ⟨h1, h2, h3⟩ := rlistN_get he _ _ h hg
    obtain ⟨k1, k2⟩ := rnum_get h1
    have hn : ¬ (rnum s).1 < 0 := fun z => q (.inr (.inl z))
    refine ⟨k1, ?_⟩
    rw [k2 (by omega), h3, h2]; simp
end
theorem rtab_get {s : RS} (h : (rtab s).2.bad = false) (hc : checkT (rtab s).1 = true) : s.bad = false ∧ bl s.b = tabB (rtab s).1 ++ bl (rtab s).2.b := by
  obtain ⟨⟨c1, c2, c3, c4, c5, c6⟩, c7, c8⟩ := check_parts hc
  obtain ⟨i1, i2⟩ := rlist_get (each := rix) (enc := ixB) (good := fun x => ∀ n ∈ x.cols, 0 ≤ n) (s := (rnum (rlist rcol (rtext s).2).2).2) (fun s hs hg => by
    have hb : (rlist rnum (rtext s).2).2.bad = false := by
      cases hz : (rlist rnum (rtext s).2).2.bad with
      | false => rfl
      | true => have h2 : (rixflag (rlist rnum (rtext s).2).2).2.bad = false := hs; rw [rixflag, if_pos hz, hz] at h2; simp at h2
    have e : rixflag (rlist rnum (rtext s).2).2 = rflag (rlist rnum (rtext s).2).2 := by rw [rixflag, hb]; rfl
    have hs' : (rflag (rlist rnum (rtext s).2).2).2.bad = false := by rw [← e]; exact hs
    obtain ⟨_, g2⟩ := rflag_get hs'
    obtain ⟨f1, f2⟩ := rlist_get (each := rnum) (enc := fun n : Int => leN 8 n.toNat) (good := fun n => 0 ≤ n) (fun s hs hg => ⟨(rnum_get hs).1, (rnum_get hs).2 hg⟩) hb hg
    obtain ⟨t1, t2⟩ := rtext_get f1
    refine ⟨t1, ?_⟩
    rw [t2, f2, g2, ixB]
    simp only [rix, e, numsB, List.append_assoc]) h (fun x hx n hn => ((c8 x hx).2.2.2 n hn).1)
  obtain ⟨k1, k2⟩ := rnum_get i1
  obtain ⟨l1, l2⟩ := rlist_get (each := rcol) (enc := colB) (good := fun c => 0 ≤ c.2) (s := (rtext s).2) (fun s hs hg => by
    obtain ⟨g1, g2⟩ := rnum_get hs
    obtain ⟨t1, t2⟩ := rtext_get g1
    refine ⟨t1, ?_⟩
    rw [t2, g2 hg, colB]
    simp only [rcol, List.append_assoc]) k1 (fun c hc => by have := c7 c hc; omega)
  obtain ⟨t1, t2⟩ := rtext_get l1
  refine ⟨t1, ?_⟩
  have hk : 0 ≤ (rnum (rlist rcol (rtext s).2).2).1 := by have : 1 ≤ (rnum (rlist rcol (rtext s).2).2).1 := c4; omega
  rw [t2, l2, k2 hk, i2, tabB]
  simp only [rtab, List.append_assoc]
theorem tabB_pos (t : Tab) : 0 < (tabB t).length := by simp [tabB, textB, leN_length]; omega

/-! ### Catalogues there and back -/
structure CatOk (l : Cat) : Prop where
  srt : Srt l
  few : l.length ≤ 4096
  good : ∀ p ∈ l, checkT p.2 = true ∧ p.1 = p.2.name
theorem sput_last {β : Type} : ∀ (l : List (ByteArray × β)) (k : ByteArray) (v : β), (∀ p ∈ l, bl p.1 < bl k) → sput l k v = l ++ [(k, v)]
  | [], _, _, _ => rfl
  | (a, b) :: l, k, v, h => by
    have h1 := h (a, b) List.mem_cons_self
    have hne : a ≠ k := fun e => by subst e; exact lt_irrefl' _ h1
    simp only [sput]
    rw [if_neg hne, if_pos h1, sput_last l k v (fun p hp => h p (List.mem_cons_of_mem _ hp))]
    rfl
theorem get_below {β : Type} {l : List (ByteArray × β)} {k : ByteArray} (h : ∀ p ∈ l, bl p.1 < bl k) : Hop.get l k = none := by
  rw [get_none_iff]
  intro hm
  obtain ⟨p, hp, e⟩ := List.mem_map.1 hm
  have := h p hp
  rw [e] at this
  exact lt_irrefl' _ this
theorem cdecN_put : ∀ (l c : Cat) (k : Nat) (b last : ByteArray), bl b = catB l → (catB l).length ≤ k → (c ++ l).length ≤ 4096 → (∀ p ∈ l, checkT p.2 = true ∧ p.1 = p.2.name) → Srt l → (∀ p ∈ l, bl last < bl p.1) → (∀ q ∈ c, ∀ p ∈ l, bl q.1 < bl p.1) → cdecN k b last c = some (c ++ l)
  | [], c, k, b, last, hb, _, _, _, _, _, _ => by
    have h0 : b.size = 0 := by rw [← bl_len, hb]; rfl
    cases k <;> simp [cdecN, h0]
  | (n, t) :: l, c, k, b, last, hb, hk, hf, hg, hs, hl, hc => by
    have hcat : catB ((n, t) :: l) = tabB t ++ catB l := rfl
    rw [hcat, List.length_append] at hk
    have hpos := tabB_pos t
    obtain ⟨k, rfl⟩ : ∃ m, k = m + 1 := ⟨k - 1, by omega⟩
    obtain ⟨g1, g2⟩ := hg _ List.mem_cons_self
    simp only at g1 g2
    subst g2
    obtain ⟨p1, p2⟩ := rtab_put (s := ⟨b, false⟩) (r := catB l) g1 ⟨rfl, by rw [← hcat]; exact hb⟩
    have hb0 : b.size ≠ 0 := by rw [← bl_len, hb, hcat, List.length_append]; omega
    have s1 := List.pairwise_cons.1 hs
    have hcl : ∀ p ∈ c, bl p.1 < bl t.name := fun p hp => hc p hp _ List.mem_cons_self
    have hcr : ccreate c t = (0, c ++ [(t.name, t)]) := by
      have h1 := get_below (β := Tab) hcl
      have h2 := sput_last (β := Tab) c t.name t hcl
      unfold ccreate
      simp only [List.length_append, List.length_cons] at hf
      rw [if_neg (by rw [g1]; simp), if_neg (by rw [h1]; simp), if_neg (by omega), h2]
    simp only [cdecN]
    rw [if_neg hb0, p1, hcr, if_neg (by rw [p2.1]; simp; exact hl _ List.mem_cons_self)]
    rw [cdecN_put l (c ++ [(t.name, t)]) k _ _ p2.2 (by omega) (by simpa using hf) (fun p hp => hg p (List.mem_cons_of_mem _ hp)) s1.2 (fun p hp => s1.1 p hp) (fun q hq p hp => by
      rcases List.mem_append.1 hq with hq | hq
      · exact hc q hq p (List.mem_cons_of_mem _ hp)
      · simp at hq; subst hq; exact s1.1 p hp)]
    simp
theorem bl_zero_lt {s : ByteArray} (h : 0 < s.size) : bl (⟨#[]⟩ : ByteArray) < bl s := by
  cases hs : bl s with
  | nil => have := bl_len s; rw [hs] at this; simp at this; omega
  | cons a l => exact List.nil_lt_cons _ _
theorem cdec_cenc {l : Cat} (h : CatOk l) (he : (cenc l).2 = 0) : cdec (cenc l).1 = (some l, 0) := by
  unfold cenc at he ⊢
  split at he
  · simp at he
  · next q =>
    rw [if_neg q]
    have hsz : (⟨(catB l).toArray⟩ : ByteArray).size = (catB l).length := by show (catB l).toArray.size = _; simp
    unfold cdec
    rw [if_neg (by rw [hsz]; exact q), cdecN_put l [] _ _ _ (by simp [bl]) (by rw [hsz]; exact Nat.le_refl _) (by simpa using h.few) h.good h.srt (fun p hp => by
      obtain ⟨g1, g2⟩ := h.good p hp
      rw [g2]; exact bl_zero_lt (namedS_size (check_parts g1).1.1).1) (by simp)]
    rfl
theorem cdecN_get : ∀ (k : Nat) (b last : ByteArray) (c d : Cat), (∀ q ∈ c, bl q.1 = bl last ∨ bl q.1 < bl last) → CatOk c → cdecN k b last c = some d → CatOk d ∧ ∃ l, d = c ++ l ∧ bl b = catB l
  | k, b, last, c, d, hq, hc, h => by
    by_cases h0 : b.size = 0
    · have hd : c = d := by cases k <;> simpa [cdecN, h0] using h
      subst hd
      refine ⟨hc, [], by simp, ?_⟩
      have := bl_len b
      rw [h0] at this
      exact List.eq_nil_of_length_eq_zero this
    · cases k with
      | zero => simp [cdecN, h0] at h
      | succ k =>
        simp only [cdecN] at h
        rw [if_neg h0] at h
        split at h
        · simp at h
        · next q =>
          have q1 : (rtab ⟨b, false⟩).2.bad = false := by cases hz : (rtab ⟨b, false⟩).2.bad; rfl; exact absurd (.inl hz) q
          have q2 : bl last < bl (rtab ⟨b, false⟩).1.name := by
            rcases Classical.em (bl last < bl (rtab ⟨b, false⟩).1.name) with z | z
            · exact z
            · exact absurd (.inr (.inl z)) q
          have q3 : (ccreate c (rtab ⟨b, false⟩).1).1 = 0 := by
            rcases Classical.em ((ccreate c (rtab ⟨b, false⟩).1).1 = 0) with z | z
            · exact z
            · exact absurd (.inr (.inr z)) q
          have hcl : ∀ p ∈ c, bl p.1 < bl (rtab ⟨b, false⟩).1.name := fun p hp => by
            rcases hq p hp with z | z
            · rw [z]; exact q2
            · exact lt_trans' z q2
          have hck : checkT (rtab ⟨b, false⟩).1 = true := by
            cases hz : checkT (rtab ⟨b, false⟩).1 with
            | true => rfl
            | false => rw [ccreate, if_pos hz] at q3; simp at q3
          have hfull : ¬ 4096 ≤ c.length := fun z => by
            rw [ccreate, if_neg (by rw [hck]; simp), if_neg (by rw [get_below hcl]; simp), if_pos z] at q3; simp at q3
          have hcr : (ccreate c (rtab ⟨b, false⟩).1).2 = c ++ [((rtab ⟨b, false⟩).1.name, (rtab ⟨b, false⟩).1)] := by
            rw [ccreate, if_neg (by rw [hck]; simp), if_neg (by rw [get_below hcl]; simp), if_neg hfull, sput_last _ _ _ hcl]
          rw [hcr] at h
          obtain ⟨_, g2⟩ := rtab_get q1 hck
          have hc' : CatOk (c ++ [((rtab ⟨b, false⟩).1.name, (rtab ⟨b, false⟩).1)]) := by
            refine ⟨?_, by simp; omega, fun p hp => ?_⟩
            · exact List.pairwise_append.2 ⟨hc.srt, List.pairwise_singleton _ _, fun x hx y hy => by simp at hy; subst hy; exact hcl x hx⟩
            · rcases List.mem_append.1 hp with hp | hp
              · exact hc.good p hp
              · simp at hp; subst hp; exact ⟨hck, rfl⟩
          obtain ⟨r1, l, r2, r3⟩ := cdecN_get k _ _ _ d (fun z hz => by
            rcases List.mem_append.1 hz with hz | hz
            · exact .inr (hcl z hz)
            · simp at hz; subst hz; exact .inl rfl) hc' h
          refine ⟨r1, ((rtab ⟨b, false⟩).1.name, (rtab ⟨b, false⟩).1) :: l, by rw [r2]; simp, ?_⟩
          rw [g2, r3]
          rfl
theorem cdec_get {b : ByteArray} {d : Cat} (h : (cdec b).1 = some d) : CatOk d ∧ cenc d = (b, 0) ∧ (cdec b).2 = 0 := by
  unfold cdec at h ⊢
  split at h
  · simp at h
  · next q =>
    rw [if_neg q]
    cases hd : cdecN b.size b ⟨#[]⟩ [] with
    | none => rw [hd] at h; simp at h
    | some c =>
      rw [hd] at h
      simp at h
      subst h
      obtain ⟨h1, l, h2, h3⟩ := cdecN_get _ _ _ _ _ (by simp) ⟨List.Pairwise.nil, by simp, by simp⟩ hd
      simp only [List.nil_append] at h2
      subst h2
      refine ⟨h1, ?_, rfl⟩
      unfold cenc
      have := bl_len b
      rw [h3] at this
      rw [if_neg (by omega)]
      congr 1
      apply bl_inj
      rw [h3]
theorem cdec_none {b : ByteArray} (h : (cdec b).1 = none) : (cdec b).2 ≠ 0 := by
  unfold cdec at h ⊢
  split
  · simp
  · next q =>
    rw [if_neg q] at h
    cases hd : cdecN b.size b ⟨#[]⟩ [] with
    | none => simp
    | some c => rw [hd] at h; simp at h
end Go.Proofs.Ythmjjbgjbcnjmaa
