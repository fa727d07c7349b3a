/-
  Schemas and catalogues as bytes, in plain Lean: what is written, what is read, there and back. No program's step stands here.
-/
import Derived.Test.YthmjjbgjbcnjmaaUa
namespace Go.Proofs.Ythmjjbgjbcnjmaa
open Go.RowKit Go.Hop

/-! ### Written -/
def leN : Nat → Nat → List UInt8
  | 0, _ => []
  | k + 1, n => UInt8.ofNat n :: leN k (n / 256)
def textB (s : ByteArray) : List UInt8 := leN 8 s.size ++ bl s
def colB (c : Col) : List UInt8 := textB c.1 ++ leN 8 c.2.toNat
def numsB (l : List Int) : List UInt8 := l.flatMap (fun n => leN 8 n.toNat)
def ixB (x : Ix) : List UInt8 := textB x.name ++ (leN 8 x.cols.length ++ numsB x.cols) ++ [if x.uniq then 1 else 0]
def tabB (t : Tab) : List UInt8 := textB t.name ++ (leN 8 t.cols.length ++ t.cols.flatMap colB) ++ leN 8 t.key.toNat ++ (leN 8 t.idx.length ++ t.idx.flatMap ixB)
def catB (l : Cat) : List UInt8 := l.flatMap (fun p => tabB p.2)
def cenc (l : Cat) : ByteArray × Int := if 262144 < (catB l).length then (⟨#[]⟩, 2) else (⟨(catB l).toArray⟩, 0)

theorem leN_length : ∀ (k n : Nat), (leN k n).length = k
  | 0, _ => rfl
  | k + 1, n => by simp [leN, leN_length k]
theorem leN_snoc : ∀ (k n : Nat), leN (k + 1) n = leN k n ++ [UInt8.ofNat (n / 256 ^ k)]
  | 0, n => by simp [leN]
  | k + 1, n => by
    rw [leN, leN_snoc k (n / 256), leN, Nat.div_div_eq_div_mul, show 256 * 256 ^ k = 256 ^ (k + 1) by rw [Nat.pow_succ, Nat.mul_comm]]
    rfl

/-! ### Read -/
structure RS where
  b : ByteArray
  bad : Bool
def le64 (l : List UInt8) : Nat := l.foldr (fun c n => c.toNat + 256 * n) 0
def toI64 (n : Nat) : Int := if n < 9223372036854775808 then (n : Int) else (n : Int) - 18446744073709551616
def rtake (s : RS) (many : Int) : ByteArray × RS :=
  if s.bad = true ∨ many < 0 ∨ (s.b.size : Int) < many then (⟨#[]⟩, ⟨s.b, true⟩) else (s.b.extract 0 many.toNat, ⟨s.b.extract many.toNat s.b.size, false⟩)
def rnum (s : RS) : Int × RS := (toI64 (le64 (bl (rtake s 8).1)), (rtake s 8).2)
def rtext (s : RS) : ByteArray × RS := rtake (rnum s).2 (rnum s).1
def rflag (s : RS) : Bool × RS :=
  if (rtake s 1).2.bad = true ∨ 1 < ((bl (rtake s 1).1).headD 0).toNat then (false, ⟨(rtake s 1).2.b, true⟩) else (decide ((bl (rtake s 1).1).headD 0 = 1), (rtake s 1).2)
section
variable {α : Type}
def rlistN (each : RS → α × RS) : Nat → RS → List α × RS
  | 0, s => ([], s)
  | k + 1, s => if s.bad = true then ([], s) else ((each s).1 :: (rlistN each k (each s).2).1, (rlistN each k (each s).2).2)
def rlist (each : RS → α × RS) (s : RS) : List α × RS :=
  if (rnum s).2.bad = true ∨ (rnum s).1 < 0 ∨ 4096 < (rnum s).1 then ([], ⟨(rnum s).2.b, true⟩) else rlistN each (rnum s).1.toNat (rnum s).2
end
def rcol (s : RS) : Col × RS := (((rtext s).1, (rnum (rtext s).2).1), (rnum (rtext s).2).2)
def rixflag (s : RS) : Bool × RS := if s.bad = true then (false, s) else rflag s
def rix (s : RS) : Ix × RS :=
  (⟨(rtext s).1, (rlist rnum (rtext s).2).1, (rixflag (rlist rnum (rtext s).2).2).1⟩, (rixflag (rlist rnum (rtext s).2).2).2)
def rtab (s : RS) : Tab × RS :=
  (⟨(rtext s).1, (rlist rcol (rtext s).2).1, (rnum (rlist rcol (rtext s).2).2).1, (rlist rix (rnum (rlist rcol (rtext s).2).2).2).1⟩, (rlist rix (rnum (rlist rcol (rtext s).2).2).2).2)
/-- what bytes are as a catalogue: so many schemas at most -/
def cdecN : Nat → ByteArray → ByteArray → Cat → Option Cat
  | 0, b, _, c => if b.size = 0 then some c else none
  | k + 1, b, last, c => if b.size = 0 then some c else
    if (rtab ⟨b, false⟩).2.bad = true ∨ ¬ bl last < bl (rtab ⟨b, false⟩).1.name ∨ (ccreate c (rtab ⟨b, false⟩).1).1 ≠ 0 then none
    else cdecN k (rtab ⟨b, false⟩).2.b (rtab ⟨b, false⟩).1.name (ccreate c (rtab ⟨b, false⟩).1).2
def cdec (b : ByteArray) : Option Cat × Int :=
  if 262144 < b.size then (none, 2) else match cdecN b.size b ⟨#[]⟩ [] with
  | some c => (some c, 0)
  | none => (none, 3)

/-! ### Numbers there and back -/
theorem u8_ofNat (n : Nat) : (UInt8.ofNat n).toNat = n % 256 := by simp
theorem le64_leN : ∀ (k n : Nat), n < 256 ^ k → le64 (leN k n) = n
  | 0, n, h => by simp at h; subst h; rfl
  | k + 1, n, h => by
    have h1 : n / 256 < 256 ^ k := by rw [Nat.pow_succ] at h; exact Nat.div_lt_of_lt_mul (by omega)
    have ih := le64_leN k (n / 256) h1
    show (UInt8.ofNat n).toNat + 256 * le64 (leN k (n / 256)) = n
    rw [ih, u8_ofNat]; omega
theorem leN_le64 : ∀ (l : List UInt8), leN l.length (le64 l) = l
  | [] => rfl
  | c :: l => by
    have ih := leN_le64 l
    have h := c.toNat_lt
    show UInt8.ofNat (c.toNat + 256 * le64 l) :: leN l.length ((c.toNat + 256 * le64 l) / 256) = _
    rw [show (c.toNat + 256 * le64 l) / 256 = le64 l by omega, ih]
    congr 1
    apply UInt8.toNat_inj.1
    rw [u8_ofNat]; omega
theorem le64_lt : ∀ (l : List UInt8), le64 l < 256 ^ l.length
  | [] => by simp [le64]
  | c :: l => by
    have ih := le64_lt l
    have h := c.toNat_lt
    show c.toNat + 256 * le64 l < 256 ^ (l.length + 1)
    rw [Nat.pow_succ]; omega
theorem bl_take (s : ByteArray) (n : Nat) : bl (s.extract 0 n) = (bl s).take n := by
  simp [bl, ByteArray.extract, ByteArray.copySlice, List.extract, List.drop_zero]
theorem bl_drop (s : ByteArray) (n : Nat) (h : n ≤ s.size) : bl (s.extract n s.size) = (bl s).drop n := by
  have e : s.data.toList.length = s.size := by simp
  simp [bl, List.extract]
  rw [List.take_of_length_le]
  rw [List.length_drop, e]
  exact Nat.le_refl _
theorem bl_len (s : ByteArray) : (bl s).length = s.size := by simp [bl]

/-- these bytes lie ahead -/
def Ahead (s : RS) (l : List UInt8) : Prop := s.bad = false ∧ bl s.b = l
theorem rtake_put {s : RS} {l r : List UInt8} (h : Ahead s (l ++ r)) {n : Int} (hn : n = l.length) : bl (rtake s n).1 = l ∧ Ahead (rtake s n).2 r := by
  obtain ⟨h1, h2⟩ := h
  have hl := bl_len s.b
  rw [h2, List.length_append] at hl
  unfold rtake
  rw [if_neg (by rw [h1]; simp; omega)]
  subst hn
  refine ⟨?_, rfl, ?_⟩
  · rw [bl_take, h2]; simp
  · rw [Int.toNat_natCast, bl_drop _ _ (by omega), h2]; simp
theorem toI64_nat {n : Nat} (h : n < 9223372036854775808) : toI64 n = n := if_pos h
theorem rnum_put {s : RS} {n : Nat} {r : List UInt8} (h : Ahead s (leN 8 n ++ r)) (hn : n < 9223372036854775808) : (rnum s).1 = n ∧ Ahead (rnum s).2 r := by
  obtain ⟨h1, h2⟩ := rtake_put h (n := 8) (by rw [leN_length]; rfl)
  refine ⟨?_, h2⟩
  show toI64 (le64 (bl (rtake s 8).1)) = n
  rw [h1, le64_leN 8 n (by omega), toI64_nat hn]
theorem rtext_put {s : RS} {x : ByteArray} {r : List UInt8} (h : Ahead s (textB x ++ r)) (hx : x.size < 9223372036854775808) : (rtext s).1 = x ∧ Ahead (rtext s).2 r := by
  rw [textB, List.append_assoc] at h
  obtain ⟨h1, h2⟩ := rnum_put h hx
  obtain ⟨h3, h4⟩ := rtake_put h2 (n := (rnum s).1) (by rw [h1, bl_len])
  exact ⟨bl_inj h3, h4⟩
theorem rflag_put {s : RS} {u : Bool} {r : List UInt8} (h : Ahead s ([if u then 1 else 0] ++ r)) : (rflag s).1 = u ∧ Ahead (rflag s).2 r := by
  obtain ⟨h1, h2⟩ := rtake_put h (n := 1) rfl
  unfold rflag
  rw [h1]
  cases u <;> rw [if_neg (by rw [h2.1]; simp)] <;> exact ⟨rfl, h2⟩
section
variable {α : Type}
theorem rlistN_put {each : RS → α × RS} {enc : α → List UInt8} : ∀ {l : List α} {s : RS} {r : List UInt8}, (∀ x ∈ l, ∀ s r, Ahead s (enc x ++ r) → (each s).1 = x ∧ Ahead (each s).2 r) → Ahead s (l.flatMap enc ++ r) → (rlistN each l.length s).1 = l ∧ Ahead (rlistN each l.length s).2 r
  | [], s, r, _, h => ⟨rfl, h⟩
  | x :: l, s, r, he, h => by
    rw [List.flatMap_cons, List.append_assoc] at h
    obtain ⟨h1, h2⟩ := he x List.mem_cons_self _ _ h
    obtain ⟨h3, h4⟩ := rlistN_put (l := l) (fun y hy => he y (List.mem_cons_of_mem _ hy)) h2
    have hb := h.1
    simp only [List.length_cons, rlistN]
    rw [if_neg (by rw [hb]; simp)]
    exact ⟨by rw [h1, h3], h4⟩
theorem rlist_put {each : RS → α × RS} {enc : α → List UInt8} {l : List α} {s : RS} {r : List UInt8} (he : ∀ x ∈ l, ∀ s r, Ahead s (enc x ++ r) → (each s).1 = x ∧ Ahead (each s).2 r) (hl : l.length ≤ 4096) (h : Ahead s ((leN 8 l.length ++ l.flatMap enc) ++ r)) :
    (rlist each s).1 = l ∧ Ahead (rlist each s).2 r := by
  rw [List.append_assoc] at h
  obtain ⟨h1, h2⟩ := rnum_put h (by omega)
  unfold rlist
  rw [if_neg (by rw [h2.1, h1]; simp; omega), h1, Int.toNat_natCast]
  exact rlistN_put he h2
end
/-- what a schema that may be has -/
theorem check_parts {t : Tab} (h : checkT t = true) : (namedS t.name = true ∧ 1 ≤ t.cols.length ∧ t.cols.length ≤ 32 ∧ 1 ≤ t.key ∧ t.key ≤ t.cols.length ∧ t.idx.length ≤ 8) ∧ (∀ c ∈ t.cols, namedS c.1 = true ∧ 1 ≤ c.2 ∧ c.2 ≤ 5) ∧ (∀ x ∈ t.idx, namedS x.name = true ∧ 1 ≤ x.cols.length ∧ x.cols.length ≤ 32 ∧ ∀ n ∈ x.cols, 0 ≤ n ∧ n < t.cols.length) := by
  simp only [checkT, Bool.and_eq_true, List.all_eq_true, inside, decide_eq_true_eq, distB] at h
  obtain ⟨⟨⟨⟨⟨⟨⟨h1, h2⟩, h3⟩, h4⟩, h5⟩, h6⟩, h7⟩, h8⟩ := h
  refine ⟨⟨h1, by omega, by omega, h3.1, h3.2, h4⟩, fun c hc => ⟨h5.1 _ (List.mem_map.2 ⟨c, hc, rfl⟩), (h7 c hc).1, (h7 c hc).2⟩, fun x hx => ⟨h6.1 _ (List.mem_map.2 ⟨x, hx, rfl⟩), ?_, ?_, fun n hn => ?_⟩⟩
  · have := (h8 x hx).1.1; omega
  · have := (h8 x hx).1.2; omega
  · have := (h8 x hx).2 n hn; omega
theorem namedS_size {s : ByteArray} (h : namedS s = true) : 0 < s.size ∧ s.size ≤ 32 := by
  simp only [namedS, Bool.and_eq_true, decide_eq_true_eq] at h
  exact ⟨h.1, h.2.1⟩
theorem rcol_put {c : Col} (h1 : namedS c.1 = true) (h2 : 0 ≤ c.2) (h3 : c.2 ≤ 5) {s : RS} {r : List UInt8} (h : Ahead s (colB c ++ r)) : (rcol s).1 = c ∧ Ahead (rcol s).2 r := by
  rw [colB, List.append_assoc] at h
  obtain ⟨q1, q2⟩ := rtext_put h (by have := namedS_size h1; omega)
  obtain ⟨q3, q4⟩ := rnum_put q2 (by omega)
  refine ⟨?_, q4⟩
  show ((rtext s).1, (rnum (rtext s).2).1) = c
  rw [q1, q3, show ((c.2.toNat : Nat) : Int) = c.2 by omega]
theorem rix_put {x : Ix} (h1 : namedS x.name = true) (h2 : x.cols.length ≤ 32) (h3 : ∀ n ∈ x.cols, 0 ≤ n ∧ n < 33) {s : RS} {r : List UInt8} (h : Ahead s (ixB x ++ r)) : (rix s).1 = x ∧ Ahead (rix s).2 r := by
  rw [ixB, List.append_assoc, List.append_assoc] at h
  obtain ⟨q1, q2⟩ := rtext_put h (by have := namedS_size h1; omega)
  obtain ⟨q3, q4⟩ := rlist_put (each := rnum) (enc := fun n : Int => leN 8 n.toNat) (l := x.cols) (fun n hn s r hs => by
    obtain ⟨z1, z2⟩ := rnum_put hs (by have := h3 n hn; omega)
    exact ⟨by rw [z1]; have := h3 n hn; omega, z2⟩) (by omega) q2
  have e : rixflag (rlist rnum (rtext s).2).2 = rflag (rlist rnum (rtext s).2).2 := by rw [rixflag, q4.1]; rfl
  obtain ⟨q5, q6⟩ := rflag_put q4
  unfold rix
  rw [e]
  exact ⟨by rw [q1, q3, q5], q6⟩
theorem rtab_put {t : Tab} (hc : checkT t = true) {s : RS} {r : List UInt8} (h : Ahead s (tabB t ++ r)) : (rtab s).1 = t ∧ Ahead (rtab s).2 r := by
  obtain ⟨⟨c1, c2, c3, c4, c5, c6⟩, c7, c8⟩ := check_parts hc
  rw [tabB, List.append_assoc, List.append_assoc, List.append_assoc] at h
  obtain ⟨q1, q2⟩ := rtext_put h (by have := namedS_size c1; omega)
  obtain ⟨q3, q4⟩ := rlist_put (each := rcol) (enc := colB) (l := t.cols) (fun c hc s r hs => by
    obtain ⟨z1, z2, z3⟩ := c7 c hc
    exact rcol_put z1 (by omega) z3 hs) (by omega) q2
  obtain ⟨q5, q6⟩ := rnum_put q4 (by omega)
  obtain ⟨q7, q8⟩ := rlist_put (each := rix) (enc := ixB) (l := t.idx) (fun x hx s r hs => by
    obtain ⟨z1, z2, z3, z4⟩ := c8 x hx
    exact rix_put z1 z3 (fun n hn => by have := z4 n hn; omega) hs) (by omega) q6
  unfold rtab
  refine ⟨?_, q8⟩
  rw [q1, q3, q5, q7, show ((t.key.toNat : Nat) : Int) = t.key by omega]

/-! ### What is read was written so -/
theorem rtake_get {s : RS} {n : Int} (h : (rtake s n).2.bad = false) : s.bad = false ∧ 0 ≤ n ∧ n ≤ s.b.size ∧ bl s.b = bl (rtake s n).1 ++ bl (rtake s n).2.b ∧ (bl (rtake s n).1).length = n.toNat := by
  unfold rtake at h ⊢
  split at h
  · simp at h
  · next q =>
    rw [if_neg q]
    have hq : s.bad = false ∧ 0 ≤ n ∧ n ≤ s.b.size := by
      refine ⟨by cases hb : s.bad; rfl; exact absurd (.inl hb) q, ?_, ?_⟩
      · have : ¬ n < 0 := fun z => q (.inr (.inl z)); omega
      · have : ¬ (s.b.size : Int) < n := fun z => q (.inr (.inr z)); omega
    refine ⟨hq.1, hq.2.1, hq.2.2, ?_, ?_⟩
    · rw [bl_take, bl_drop _ _ (by omega)]; simp
    · rw [bl_take, List.length_take, bl_len]; omega
theorem rnum_get {s : RS} (h : (rnum s).2.bad = false) : s.bad = false ∧ (0 ≤ (rnum s).1 → bl s.b = leN 8 (rnum s).1.toNat ++ bl (rnum s).2.b) := by
  obtain ⟨h1, h2, h3, h4, h5⟩ := rtake_get (s := s) (n := 8) h
  refine ⟨h1, fun hp => ?_⟩
  have hl := le64_lt (bl (rtake s 8).1)
  have hr := leN_le64 (bl (rtake s 8).1)
  rw [h5] at hl hr
  have e : (rnum s).1.toNat = le64 (bl (rtake s 8).1) := by
    show (toI64 (le64 (bl (rtake s 8).1))).toNat = _
    have hp' : 0 ≤ toI64 (le64 (bl (rtake s 8).1)) := hp
    unfold toI64 at hp' ⊢
    split
    · simp
    · next q => rw [if_neg q] at hp'; simp at hl; omega
  rw [e]
  show bl s.b = leN 8 _ ++ bl (rtake s 8).2.b
  rw [show (8 : Int).toNat = 8 from rfl] at hr
  rw [hr]; exact h4
theorem rtext_get {s : RS} (h : (rtext s).2.bad = false) : s.bad = false ∧ bl s.b = textB (rtext s).1 ++ bl (rtext s).2.b := by
  obtain ⟨h1, h2, h3, h4, h5⟩ := rtake_get (s := (rnum s).2) (n := (rnum s).1) h
  obtain ⟨k1, k2⟩ := rnum_get h1
  refine ⟨k1, ?_⟩
  have e : (rtext s).1.size = (rnum s).1.toNat := by rw [← bl_len]; exact h5
  rw [k2 h2, textB, e, List.append_assoc]
  congr 1
theorem rflag_get {s : RS} (h : (rflag s).2.bad = false) : s.bad = false ∧ bl s.b = [if (rflag s).1 then 1 else 0] ++ bl (rflag s).2.b := by
  unfold rflag at h ⊢
  split at h
  · simp at h
  · next q =>
    rw [if_neg q]
    obtain ⟨h1, h2, h3, h4, h5⟩ := rtake_get h
    refine ⟨h1, ?_⟩
    match hx : bl (rtake s 1).1, h5 with
    | [c], _ =>
      rw [hx] at q h4
      have hc : ¬ 1 < c.toNat := fun z => q (.inr z)
      have : c = 0 ∨ c = 1 := by
        rcases (by omega : c.toNat = 0 ∨ c.toNat = 1) with z | z
        · exact .inl (UInt8.toNat_inj.1 z)
        · exact .inr (UInt8.toNat_inj.1 z)
      rw [h4]
      rcases this with rfl | rfl <;> rfl
section
variable {α : Type}
theorem rlistN_get {each : RS → α × RS} {enc : α → List UInt8} {good : α → Prop} (he : ∀ s, (each s).2.bad = false → good (each s).1 → s.bad = false ∧ bl s.b = enc (each s).1 ++ bl (each s).2.b) :
    ∀ (k : Nat) (s : RS), (rlistN each k s).2.bad = false → (∀ x ∈ (rlistN each k s).1, good x) → s.bad = false ∧ bl s.b = (rlistN each k s).1.flatMap enc ++ bl (rlistN each k s).2.b ∧ (rlistN each k s).1.length = k
  | 0, s, h, _ => ⟨h, rfl, rfl⟩
  | k + 1, s, h, hg => by
    by_cases hb : s.bad = true
    · simp only [rlistN] at h
      rw [if_pos hb] at h
      rw [hb] at h; simp at h
    · simp only [rlistN] at h hg ⊢
      rw [if_neg hb] at h hg ⊢
      obtain ⟨h1, h2, h3⟩ := rlistN_get he k _ h (fun x hx => hg x (List.mem_cons_of_mem _ hx))
      obtain ⟨k1, k2⟩ := he s h1 (hg _ List.mem_cons_self)
      refine ⟨k1, ?_, by simp [h3]⟩
      rw [k2, h2]; simp
theorem rlist_get {each : RS → α × RS} {enc : α → List UInt8} {good : α → Prop} (he : ∀ s, (each s).2.bad = false → good (each s).1 → s.bad = false ∧ bl s.b = enc (each s).1 ++ bl (each s).2.b) {s : RS}
    (h : (rlist each s).2.bad = false) (hg : ∀ x ∈ (rlist each s).1, good x) : s.bad = false ∧ bl s.b = (leN 8 (rlist each s).1.length ++ (rlist each s).1.flatMap enc) ++ bl (rlist each s).2.b := by
  unfold rlist at h hg ⊢
  split at h
  · simp at h
  · next q =>
    rw [if_neg q] at hg ⊢
    obtain ⟨h1, h2, h3⟩ := rlistN_get he _ _ h hg
    obtain ⟨k1, k2⟩ := rnum_get h1
    have hn : ¬ (rnum s).1 < 0 := fun z => q (.inr (.inl z))
    refine ⟨k1, ?_⟩
    rw [k2 (by omega), h3, h2]; simp
end
theorem rtab_get {s : RS} (h : (rtab s).2.bad = false) (hc : checkT (rtab s).1 = true) : s.bad = false ∧ bl s.b = tabB (rtab s).1 ++ bl (rtab s).2.b := by
  obtain ⟨⟨c1, c2, c3, c4, c5, c6⟩, c7, c8⟩ := check_parts hc
  obtain ⟨i1, i2⟩ := rlist_get (each := rix) (enc := ixB) (good := fun x => ∀ n ∈ x.cols, 0 ≤ n) (s := (rnum (rlist rcol (rtext s).2).2).2) (fun s hs hg => by
    have hb : (rlist rnum (rtext s).2).2.bad = false := by
      cases hz : (rlist rnum (rtext s).2).2.bad with
      | false => rfl
      | true => have h2 : (rixflag (rlist rnum (rtext s).2).2).2.bad = false := hs; rw [rixflag, if_pos hz, hz] at h2; simp at h2
    have e : rixflag (rlist rnum (rtext s).2).2 = rflag (rlist rnum (rtext s).2).2 := by rw [rixflag, hb]; rfl
    have hs' : (rflag (rlist rnum (rtext s).2).2).2.bad = false := by rw [← e]; exact hs
    obtain ⟨_, g2⟩ := rflag_get hs'
    obtain ⟨f1, f2⟩ := rlist_get (each := rnum) (enc := fun n : Int => leN 8 n.toNat) (good := fun n => 0 ≤ n) (fun s hs hg => ⟨(rnum_get hs).1, (rnum_get hs).2 hg⟩) hb hg
    obtain ⟨t1, t2⟩ := rtext_get f1
    refine ⟨t1, ?_⟩
    rw [t2, f2, g2, ixB]
    simp only [rix, e, numsB, List.append_assoc]) h (fun x hx n hn => ((c8 x hx).2.2.2 n hn).1)
  obtain ⟨k1, k2⟩ := rnum_get i1
  obtain ⟨l1, l2⟩ := rlist_get (each := rcol) (enc := colB) (good := fun c => 0 ≤ c.2) (s := (rtext s).2) (fun s hs hg => by
    obtain ⟨g1, g2⟩ := rnum_get hs
    obtain ⟨t1, t2⟩ := rtext_get g1
    refine ⟨t1, ?_⟩
    rw [t2, g2 hg, colB]
    simp only [rcol, List.append_assoc]) k1 (fun c hc => by have := c7 c hc; omega)
  obtain ⟨t1, t2⟩ := rtext_get l1
  refine ⟨t1, ?_⟩
  have hk : 0 ≤ (rnum (rlist rcol (rtext s).2).2).1 := by have : 1 ≤ (rnum (rlist rcol (rtext s).2).2).1 := c4; omega
  rw [t2, l2, k2 hk, i2, tabB]
  simp only [rtab, List.append_assoc]
theorem tabB_pos (t : Tab) : 0 < (tabB t).length := by simp [tabB, textB, leN_length]; omega

/-! ### Catalogues there and back -/
structure CatOk (l : Cat) : Prop where
  srt : Srt l
  few : l.length ≤ 4096
  good : ∀ p ∈ l, checkT p.2 = true ∧ p.1 = p.2.name
theorem sput_last {β : Type} : ∀ (l : List (ByteArray × β)) (k : ByteArray) (v : β), (∀ p ∈ l, bl p.1 < bl k) → sput l k v = l ++ [(k, v)]
  | [], _, _, _ => rfl
  | (a, b) :: l, k, v, h => by
    have h1 := h (a, b) List.mem_cons_self
    have hne : a ≠ k := fun e => by subst e; exact lt_irrefl' _ h1
    simp only [sput]
    rw [if_neg hne, if_pos h1, sput_last l k v (fun p hp => h p (List.mem_cons_of_mem _ hp))]
    rfl
theorem get_below {β : Type} {l : List (ByteArray × β)} {k : ByteArray} (h : ∀ p ∈ l, bl p.1 < bl k) : Hop.get l k = none := by
  rw [get_none_iff]
  intro hm
  obtain ⟨p, hp, e⟩ := List.mem_map.1 hm
  have := h p hp
  rw [e] at this
  exact lt_irrefl' _ this
theorem cdecN_put : ∀ (l c : Cat) (k : Nat) (b last : ByteArray), bl b = catB l → (catB l).length ≤ k → (c ++ l).length ≤ 4096 → (∀ p ∈ l, checkT p.2 = true ∧ p.1 = p.2.name) → Srt l → (∀ p ∈ l, bl last < bl p.1) → (∀ q ∈ c, ∀ p ∈ l, bl q.1 < bl p.1) → cdecN k b last c = some (c ++ l)
  | [], c, k, b, last, hb, _, _, _, _, _, _ => by
    have h0 : b.size = 0 := by rw [← bl_len, hb]; rfl
    cases k <;> simp [cdecN, h0]
  | (n, t) :: l, c, k, b, last, hb, hk, hf, hg, hs, hl, hc => by
    have hcat : catB ((n, t) :: l) = tabB t ++ catB l := rfl
    rw [hcat, List.length_append] at hk
    have hpos := tabB_pos t
    obtain ⟨k, rfl⟩ : ∃ m, k = m + 1 := ⟨k - 1, by omega⟩
    obtain ⟨g1, g2⟩ := hg _ List.mem_cons_self
    simp only at g1 g2
    subst g2
    obtain ⟨p1, p2⟩ := rtab_put (s := ⟨b, false⟩) (r := catB l) g1 ⟨rfl, by rw [← hcat]; exact hb⟩
    have hb0 : b.size ≠ 0 := by rw [← bl_len, hb, hcat, List.length_append]; omega
    have s1 := List.pairwise_cons.1 hs
    have hcl : ∀ p ∈ c, bl p.1 < bl t.name := fun p hp => hc p hp _ List.mem_cons_self
    have hcr : ccreate c t = (0, c ++ [(t.name, t)]) := by
      have h1 := get_below (β := Tab) hcl
      have h2 := sput_last (β := Tab) c t.name t hcl
      unfold ccreate
      simp only [List.length_append, List.length_cons] at hf
      rw [if_neg (by rw [g1]; simp), if_neg (by rw [h1]; simp), if_neg (by omega), h2]
    simp only [cdecN]
    rw [if_neg hb0, p1, hcr, if_neg (by rw [p2.1]; simp; exact hl _ List.mem_cons_self)]
    rw [cdecN_put l (c ++ [(t.name, t)]) k _ _ p2.2 (by omega) (by simpa using hf) (fun p hp => hg p (List.mem_cons_of_mem _ hp)) s1.2 (fun p hp => s1.1 p hp) (fun q hq p hp => by
      rcases List.mem_append.1 hq with hq | hq
      · exact hc q hq p (List.mem_cons_of_mem _ hp)
      · simp at hq; subst hq; exact s1.1 p hp)]
    simp
theorem bl_zero_lt {s : ByteArray} (h : 0 < s.size) : bl (⟨#[]⟩ : ByteArray) < bl s := by
  cases hs : bl s with
  | nil => have := bl_len s; rw [hs] at this; simp at this; omega
  | cons a l => exact List.nil_lt_cons _ _
theorem cdec_cenc {l : Cat} (h : CatOk l) (he : (cenc l).2 = 0) : cdec (cenc l).1 = (some l, 0) := by
  unfold cenc at he ⊢
  split at he
  · simp at he
  · next q =>
    rw [if_neg q]
    have hsz : (⟨(catB l).toArray⟩ : ByteArray).size = (catB l).length := by show (catB l).toArray.size = _; simp
    unfold cdec
    rw [if_neg (by rw [hsz]; exact q), cdecN_put l [] _ _ _ (by simp [bl]) (by rw [hsz]; exact Nat.le_refl _) (by simpa using h.few) h.good h.srt (fun p hp => by
      obtain ⟨g1, g2⟩ := h.good p hp
      rw [g2]; exact bl_zero_lt (namedS_size (check_parts g1).1.1).1) (by simp)]
    rfl
theorem cdecN_get : ∀ (k : Nat) (b last : ByteArray) (c d : Cat), (∀ q ∈ c, bl q.1 = bl last ∨ bl q.1 < bl last) → CatOk c → cdecN k b last c = some d → CatOk d ∧ ∃ l, d = c ++ l ∧ bl b = catB l
  | k, b, last, c, d, hq, hc, h => by
    by_cases h0 : b.size = 0
    · have hd : c = d := by cases k <;> simpa [cdecN, h0] using h
      subst hd
      refine ⟨hc, [], by simp, ?_⟩
      have := bl_len b
      rw [h0] at this
      exact List.eq_nil_of_length_eq_zero this
    · cases k with
      | zero => simp [cdecN, h0] at h
      | succ k =>
        simp only [cdecN] at h
        rw [if_neg h0] at h
        split at h
        · simp at h
        · next q =>
          have q1 : (rtab ⟨b, false⟩).2.bad = false := by cases hz : (rtab ⟨b, false⟩).2.bad; rfl; exact absurd (.inl hz) q
          have q2 : bl last < bl (rtab ⟨b, false⟩).1.name := by
            rcases Classical.em (bl last < bl (rtab ⟨b, false⟩).1.name) with z | z
            · exact z
            · exact absurd (.inr (.inl z)) q
          have q3 : (ccreate c (rtab ⟨b, false⟩).1).1 = 0 := by
            rcases Classical.em ((ccreate c (rtab ⟨b, false⟩).1).1 = 0) with z | z
            · exact z
            · exact absurd (.inr (.inr z)) q
          have hcl : ∀ p ∈ c, bl p.1 < bl (rtab ⟨b, false⟩).1.name := fun p hp => by
            rcases hq p hp with z | z
            · rw [z]; exact q2
            · exact lt_trans' z q2
          have hck : checkT (rtab ⟨b, false⟩).1 = true := by
            cases hz : checkT (rtab ⟨b, false⟩).1 with
            | true => rfl
            | false => rw [ccreate, if_pos hz] at q3; simp at q3
          have hfull : ¬ 4096 ≤ c.length := fun z => by
            rw [ccreate, if_neg (by rw [hck]; simp), if_neg (by rw [get_below hcl]; simp), if_pos z] at q3; simp at q3
          have hcr : (ccreate c (rtab ⟨b, false⟩).1).2 = c ++ [((rtab ⟨b, false⟩).1.name, (rtab ⟨b, false⟩).1)] := by
            rw [ccreate, if_neg (by rw [hck]; simp), if_neg (by rw [get_below hcl]; simp), if_neg hfull, sput_last _ _ _ hcl]
          rw [hcr] at h
          obtain ⟨_, g2⟩ := rtab_get q1 hck
          have hc' : CatOk (c ++ [((rtab ⟨b, false⟩).1.name, (rtab ⟨b, false⟩).1)]) := by
            refine ⟨?_, by simp; omega, fun p hp => ?_⟩
            · exact List.pairwise_append.2 ⟨hc.srt, List.pairwise_singleton _ _, fun x hx y hy => by simp at hy; subst hy; exact hcl x hx⟩
            · rcases List.mem_append.1 hp with hp | hp
              · exact hc.good p hp
              · simp at hp; subst hp; exact ⟨hck, rfl⟩
          obtain ⟨r1, l, r2, r3⟩ := cdecN_get k _ _ _ d (fun z hz => by
            rcases List.mem_append.1 hz with hz | hz
            · exact .inr (hcl z hz)
            · simp at hz; subst hz; exact .inl rfl) hc' h
          refine ⟨r1, ((rtab ⟨b, false⟩).1.name, (rtab ⟨b, false⟩).1) :: l, by rw [r2]; simp, ?_⟩
          rw [g2, r3]
          rfl
theorem cdec_get {b : ByteArray} {d : Cat} (h : (cdec b).1 = some d) : CatOk d ∧ cenc d = (b, 0) ∧ (cdec b).2 = 0 := by
  unfold cdec at h ⊢
  split at h
  · simp at h
  · next q =>
    rw [if_neg q]
    cases hd : cdecN b.size b ⟨#[]⟩ [] with
    | none => rw [hd] at h; simp at h
    | some c =>
      rw [hd] at h
      simp at h
      subst h
      obtain ⟨h1, l, h2, h3⟩ := cdecN_get _ _ _ _ _ (by simp) ⟨List.Pairwise.nil, by simp, by simp⟩ hd
      simp only [List.nil_append] at h2
      subst h2
      refine ⟨h1, ?_, rfl⟩
      unfold cenc
      have := bl_len b
      rw [h3] at this
      rw [if_neg (by omega)]
      congr 1
      apply bl_inj
      rw [h3]
theorem cdec_none {b : ByteArray} (h : (cdec b).1 = none) : (cdec b).2 ≠ 0 := by
  unfold cdec at h ⊢
  split
  · simp
  · next q =>
    rw [if_neg q] at h
    cases hd : cdecN b.size b ⟨#[]⟩ [] with
    | none => simp
    | some c => rw [hd] at h; simp at h
end Go.Proofs.Ythmjjbgjbcnjmaa
