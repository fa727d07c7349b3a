/-
  Contracts of the functions that the statement reaches, and the plain laws behind it: this seat's texts Ka, Da, Dc, Kd, Ra, Rb, Rc, Db, Dd, De, one behind the other.
-/
import Derived.WalkKit
import Derived.WalkSpells
import Derived.WalkLawsBesides
import Derived.Maps.OwnSet
import Derived.Deep.Draws
import Derived.Lib.Hide
import Derived.Lib.Strings
import Derived.Test.YthmjjbgjbcnjmaaProg
import Derived.Maps.AppendAt
import Derived.StillTailTactics
import Derived.Deep.QuietTactic
import Derived.BigQuiet

/-
  Frames (what a call may turn), and maps keyed by strings, entry by entry: words for the walks of this seat. No program's number stands here.
-/
namespace Go.Hop
open Go.RowKit Go.MapKept

/-! ### 1. Frames -/
/-- w' is w but for the blocks of S, and new blocks. -/
structure Fr (S : Nat → Prop) (w w' : World) : Prop where
  os : w'.os = w.os
  tape : w'.tape = w.tape
  output : w'.output = w.output
  size : w.heap.size ≤ w'.heap.size
  block : ∀ k, k < w.heap.size → ¬ S k → w'.heap[k]? = w.heap[k]?

/-- no old block -/
def no : Nat → Prop := fun _ => False

theorem Fr.refl (S : Nat → Prop) (w : World) : Fr S w w := ⟨rfl, rfl, rfl, Nat.le_refl _, fun _ _ _ => rfl⟩
theorem Fr.trans {S T : Nat → Prop} {a b c : World} (h : Fr S a b) (k : Fr T b c) (hT : ∀ i, i < a.heap.size → T i → S i) : Fr S a c :=
  ⟨k.os.trans h.os, k.tape.trans h.tape, k.output.trans h.output, Nat.le_trans h.size k.size,
   fun i hi hn => (k.block i (Nat.lt_of_lt_of_le hi h.size) (fun ht => hn (hT i hi ht))).trans (h.block i hi hn)⟩
theorem Fr.mono {S T : Nat → Prop} {a b : World} (h : Fr S a b) (hT : ∀ i, i < a.heap.size → S i → T i) : Fr T a b :=
  ⟨h.os, h.tape, h.output, h.size, fun i hi hn => h.block i hi (fun hs => hn (hT i hi hs))⟩
theorem Fr.alloc {S : Nat → Prop} {a w : World} (h : Fr S a w) (o : Obj) : Fr S a (w.alloc o) :=
  h.trans (T := no) ⟨rfl, rfl, rfl, by simp, fun k hk _ => Below.heap_alloc _ _ _ hk⟩ (fun _ _ ht => ht.elim)
theorem Fr.drew {S : Nat → Prop} {a w : World} (h : Fr S a w) : Fr S a w.drew := ⟨h.os, h.tape, h.output, h.size, h.block⟩
theorem Fr.drewN {S : Nat → Prop} {a w : World} (h : Fr S a w) (n : Nat) : Fr S a (w.drewN n) := ⟨h.os, h.tape, h.output, h.size, h.block⟩
theorem Fr.setCell {S : Nat → Prop} {a w : World} (h : Fr S a w) (p : Addr) (u : Value) (hp : p.block < a.heap.size → S p.block) : Fr S a (w.setCell p u) :=
  h.trans (T := fun k => k = p.block) ⟨rfl, rfl, rfl, by simp [World.setCell], fun k _ hn => Below.heap_setCell _ _ _ _ hn⟩ (fun i hi ht => by subst ht; exact hp hi)
theorem Fr.below {w w' : World} (h : Below w.heap.size w w') (S : Nat → Prop) : Fr S w w' := ⟨h.os, h.tape, h.output, h.size, fun k hk _ => h.block k hk⟩
theorem Fr.grown {w w' : World} {row : Option Nat} (h : w.grownBy w' row) : Fr (fun k => some k = row) w w' := ⟨h.os, h.tape, h.output, h.size, fun k hk hn => h.block k hk hn⟩
theorem Fr.toBelow {S : Nat → Prop} {w w' : World} {B : Nat} (h : Fr S w w') (hB : B ≤ w.heap.size) (hS : ∀ k, k < B → ¬ S k) : Below B w w' :=
  ⟨h.os, h.tape, h.output, h.size, fun k hk => h.block k (Nat.lt_of_lt_of_le hk hB) (hS k hk)⟩
theorem Fr.none_ {w w' : World} (h : Fr no w w') : Below w.heap.size w w' := h.toBelow (Nat.le_refl _) (fun _ _ h => h)
theorem Fr.keep {S : Nat → Prop} {w w' : World} (h : Fr S w w') {k : Nat} {o : Obj} (hk : w.heap[k]? = some o) (hn : ¬ S k) : w'.heap[k]? = some o :=
  (h.block k (Array.getElem?_eq_some_iff.1 hk).1 hn).trans hk
theorem Fr.cell {S : Nat → Prop} {w w' : World} (h : Fr S w w') {p : Addr} {v : Value} (hc : w.cell? p = some v) (hn : ¬ S p.block) : w'.cell? p = some v :=
  (World.cell?_of_block (w := w) (h.block _ (World.block_lt_of_cell? w p hc) hn)).trans hc
theorem Fr.owns {S : Nat → Prop} {w w' : World} (h : Fr S w w') {base : Nat} {e : TypeId} {size n : Nat} {v : Value} {xs : List Value} (ho : w.ownsRow base e size v n xs) (hn : ∀ k, v.ownBlock = some k → ¬ S k) : w'.ownsRow base e size v n xs := by
  refine ⟨ho.1, ?_⟩
  rcases ho.2 with h' | ⟨g, cap, cur, rfl, hb, hg, r⟩
  · exact .inl h'
  · exact .inr ⟨g, cap, cur, rfl, hb, h.keep hg (hn g (by simp [Value.ownBlock])), r⟩

/-- a block of cells read at once -/
theorem cells_at {w : World} {b : Nat} {cs : Array Value} {e : TypeId} (h : w.heap[b]? = some (.cells cs e (0, 0))) (i : Nat) (v : Value) (hv : cs[i]? = some v) : w.cell? ⟨b, i, none⟩ = some v := by
  simp [World.cell?, h, hv]
theorem free_at {w : World} {b : Nat} {cs : Array Value} {e : TypeId} (h : w.heap[b]? = some (.cells cs e (0, 0))) (i : Nat) : w.frozen? ⟨b, i, none⟩ = false := by
  simp [World.frozen?, h]
theorem heap_setCell_at {w : World} {b : Nat} {cs : Array Value} {e : TypeId} (h : w.heap[b]? = some (.cells cs e (0, 0))) (i : Nat) (v : Value) : (w.setCell ⟨b, i, none⟩ v).heap[b]? = some (.cells (cs.setIfInBounds i v) e (0, 0)) := by
  simp [World.setCell, Array.getElem?_modify, h]
theorem heap_alloc_at (w : World) (o : Obj) : (w.alloc o).heap[w.heap.size]? = some o := (heap_alloc w o).1
theorem heap_lt {w : World} {b : Nat} {o : Obj} (h : w.heap[b]? = some o) : b < w.heap.size := (Array.getElem?_eq_some_iff.1 h).1

/-! ### 2. Association lists -/
section
variable {β : Type}
def get : List (ByteArray × β) → ByteArray → Option β
  | [], _ => none
  | (a, b) :: t, k => if a = k then some b else get t k
def put : List (ByteArray × β) → ByteArray → β → List (ByteArray × β)
  | [], k, v => [(k, v)]
  | (a, b) :: t, k, v => if a = k then (k, v) :: t else (a, b) :: put t k v
def del : List (ByteArray × β) → ByteArray → List (ByteArray × β)
  | [], _ => []
  | (a, b) :: t, k => if a = k then t else (a, b) :: del t k
end
def mapv {β γ : Type} (f : β → γ) (l : List (ByteArray × β)) : List (ByteArray × γ) := l.map (fun p => (p.1, f p.2))
theorem get_mapv {β γ : Type} (f : β → γ) (l : List (ByteArray × β)) (k : ByteArray) : get (mapv f l) k = (get l k).map f := by
  induction l with
  | nil => rfl
  | cons p t ih => obtain ⟨a, b⟩ := p; simp only [mapv, List.map_cons, get] at ih ⊢; split <;> simp_all
theorem put_mapv {β γ : Type} (f : β → γ) (l : List (ByteArray × β)) (k : ByteArray) (v : β) : put (mapv f l) k (f v) = mapv f (put l k v) := by
  induction l with
  | nil => rfl
  | cons p t ih => obtain ⟨a, b⟩ := p; simp only [mapv, List.map_cons, put] at ih ⊢; split <;> simp_all
theorem del_mapv {β γ : Type} (f : β → γ) (l : List (ByteArray × β)) (k : ByteArray) : del (mapv f l) k = mapv f (del l k) := by
  induction l with
  | nil => rfl
  | cons p t ih => obtain ⟨a, b⟩ := p; simp only [mapv, List.map_cons, del] at ih ⊢; split <;> simp_all

/-! ### 3. A map keyed by strings, entry by entry -/
def encE (p : ByteArray × Value) : Value × Value := (.string p.1, p.2)
def MapIs (w : World) (m : Nat) (l : List (ByteArray × Value)) : Prop :=
  ∃ es clock, w.heap[m]? = some (.map es clock) ∧ Stamped es clock ∧ es.toList.map (fun e => (e.key, e.val)) = l.map encE

theorem MapIs.lt {w : World} {m : Nat} {l : List (ByteArray × Value)} (h : MapIs w m l) : m < w.heap.size := by
  obtain ⟨es, clock, hb, _⟩ := h; exact heap_lt hb
theorem MapIs.keep {S : Nat → Prop} {w w' : World} {m : Nat} {l : List (ByteArray × Value)} (h : MapIs w m l) (hf : Fr S w w') (hn : ¬ S m) : MapIs w' m l := by
  obtain ⟨es, clock, hb, r⟩ := h; exact ⟨es, clock, hf.keep hb hn, r⟩
theorem MapIs.made (w : World) : MapIs (w.alloc (.map #[] 0)) w.heap.size [] := ⟨#[], 0, heap_alloc_at w _, stamped_empty 0, rfl⟩

theorem map_eraseIdx' {α β : Type} (f : α → β) : ∀ (l : List α) (i : Nat), (l.eraseIdx i).map f = (l.map f).eraseIdx i
  | [], _ => rfl
  | _ :: _, 0 => rfl
  | a :: l, i + 1 => by simp [map_eraseIdx' f l i]
theorem isKey_string (s : ByteArray) : IsKey .string (.string s) := by simp [IsKey]
theorem keys_string {es : List MapEntry} {l : List (ByteArray × Value)} (h : es.map (fun e => (e.key, e.val)) = l.map encE) : ∀ x ∈ es, IsKey .string x.key := by
  intro x hx
  have : (x.key, x.val) ∈ l.map encE := by rw [← h]; exact List.mem_map.2 ⟨x, hx, rfl⟩
  obtain ⟨p, _, hp⟩ := List.mem_map.1 this
  have : x.key = .string p.1 := (congrArg Prod.fst hp).symm
  rw [this]; exact isKey_string _

theorem find_from (s : ByteArray) : ∀ (es : List MapEntry) (l : List (ByteArray × Value)) (i : Nat), es.map (fun e => (e.key, e.val)) = l.map encE →
    (get l s = none ∧ Instr.findNow .string (.string s) es i = some none ∧ put l s = (fun v => l ++ [(s, v)]) ∧ del l s = l ∧ ∀ x ∈ es, x.key ≠ .string s) ∨
    (∃ j v e, get l s = some v ∧ Instr.findNow .string (.string s) es i = some (some (i + j, v)) ∧ es[j]? = some e ∧ e.key = .string s ∧ put l s = (fun v => l.set j (s, v)) ∧ del l s = l.eraseIdx j)
  | [], [], i, _ => .inl ⟨rfl, rfl, by funext v; rfl, rfl, by simp⟩
  | [], _ :: _, _, h => by simp at h
  | _ :: _, [], _, h => by simp at h
  | e :: es, (a, b) :: l, i, h => by
    simp only [List.map_cons, List.cons.injEq] at h
    obtain ⟨h0, h1⟩ := h
    have hk : e.key = .string a := (congrArg Prod.fst h0)
    have hv : e.val = b := (congrArg Prod.snd h0)
    by_cases q : a = s
    · subst q
      refine .inr ⟨0, b, e, by simp [get], ?_, rfl, hk, by funext v; simp [put], by simp [del]⟩
      have : (a == a) = true := (bytes_beq a a).2 rfl
      simp [Instr.findNow, Instr.sameNow, hk, hv, this]
    · have hne : (s == a) = false := by
        cases hb : (s == a) with
        | false => rfl
        | true => exact absurd ((bytes_beq s a).1 hb).symm q
      rcases find_from s es l (i + 1) h1 with ⟨g1, g2, g3, g4, g5⟩ | ⟨j, v, e', g1, g2, g3, g4, g5, g6⟩
      · refine .inl ⟨by simp [get, q, g1], by simp [Instr.findNow, Instr.sameNow, hk, hne, g2], by funext v; simp [put, q, congrFun g3 v], by simp [del, q, g4], ?_⟩
        intro x hx
        cases hx with
        | head => rw [hk]; intro hh; exact q (by injection hh)
        | tail _ hx => exact g5 x hx
      · exact .inr ⟨j + 1, v, e', by simp [get, q, g1], by simp [Instr.findNow, Instr.sameNow, hk, hne, g2]; omega, by simpa using g3, g4, by funext v; simp [put, q, congrFun g5 v], by simp [del, q, g6]⟩

section
variable {P : Program} {w : World} {t k e : TypeId} {m : Nat} {l : List (ByteArray × Value)}

theorem MapIs.look (h : MapIs w m l) (ht : P.underlying t = some (.map k e)) (hk : P.underlying k = some .string) {z : Value} (hz : ∀ w, (zeroValue e).run P w = .ok z w) (s : ByteArray) (c : Bool) :
    (Instr.lookup t (.map (some m)) (.string s) c).run P w = .ok (if c then .tuple #[(get l s).getD z, .bool (get l s).isSome] else (get l s).getD z) w := by
  obtain ⟨es, clock, hb, hs, he⟩ := h
  rcases find_from s es.toList l 0 he with ⟨g1, g2, _⟩ | ⟨j, v, e', g1, g2, _⟩
  · simp [Instr.lookup, run_underlying ht, MapKept.run_getObj_map hb, run_checkKey hk (isKey_string s), run_findKey hk g2, Result.andThen, hz, g1]
  · simp [Instr.lookup, run_underlying ht, MapKept.run_getObj_map hb, run_checkKey hk (isKey_string s), run_findKey hk g2, Result.andThen, g1]

theorem MapIs.store (h : MapIs w m l) (ht : P.underlying t = some (.map k e)) (hk : P.underlying k = some .string) (s : ByteArray) (v : Value) :
    ∃ w', (Instr.mapUpdate t (.map (some m)) (.string s) v).run P w = .ok () w' ∧ MapIs w' m (put l s v) ∧ Fr (· = m) w w' := by
  obtain ⟨es, clock, hb, hs, he⟩ := h
  have hfr : ∀ o, Fr (· = m) w { w with heap := w.heap.setIfInBounds m o } := fun o => ⟨rfl, rfl, rfl, by simp, fun i _ hn => (heap_set hb).2 i hn⟩
  have hks := keys_string he
  rcases find_from s es.toList l 0 he with ⟨g1, g2, g3, g4, g5⟩ | ⟨j, u, e', g1, g2, g3, g4, g5, g6⟩
  · refine ⟨_, by simp [Instr.mapUpdate, run_underlying ht, MapKept.run_getObj_map hb, run_checkKey hk (isKey_string s), run_findKey hk g2, MapKept.run_setObj_map _ hb, Result.andThen]; rfl, ⟨_, _, (heap_set hb).1, stamped_push hs g5, ?_⟩, hfr _⟩
    rw [g3]; simp [he, encE]
  · have hj : es[j]? = some e' := by simpa using g3
    have hkey : ∀ e2, es[j]? = some e2 → ({ e2 with key := .string s, val := v } : MapEntry).key = e2.key := fun e2 he' => by rw [hj] at he'; cases he'; exact g4.symm
    have hrun : (Instr.mapUpdate t (.map (some m)) (.string s) v).run P w = .ok () { w with heap := w.heap.setIfInBounds m (.map (es.modify j (fun e2 => { e2 with key := .string s, val := v })) clock) } := by
      simp [Instr.mapUpdate, run_underlying ht, MapKept.run_getObj_map hb, run_checkKey hk (isKey_string s), run_findKey hk g2, hj, g4, run_keyThatStays (isKey_string s), MapKept.run_setObj_map _ hb, Result.andThen]
    refine ⟨_, hrun, ⟨_, _, (heap_set hb).1, stamped_modify hs _ _ (fun _ _ => rfl) (fun e2 _ he' => hkey e2 he'), ?_⟩, hfr _⟩
    rw [g5]
    simp only [Array.toList_modify]
    apply List.ext_getElem?
    intro i
    have hi := congrArg (fun x => x[i]?) he
    simp only [List.getElem?_map] at hi
    have hjl : j < l.length := by
      have h1 : j < es.toList.length := by simpa using (Array.getElem?_eq_some_iff.1 hj).1
      have h2 := congrArg List.length he
      simp only [List.length_map] at h2
      omega
    simp only [List.getElem?_map, List.getElem?_modify, List.getElem?_set]
    by_cases q : j = i
    · subst q
      simp only [if_true, g3, hjl]
      simp [encE]
    · simp only [q, if_false]
      simpa using hi

theorem MapIs.drop (h : MapIs w m l) (ht : P.underlying t = some (.map k e)) (hk : P.underlying k = some .string) (s : ByteArray) (ty : TypeId) :
    ∃ w', (Builtin.delete_ #[t, k] ty #[.map (some m), .string s]).run P w = .ok (.tuple #[]) w' ∧ MapIs w' m (del l s) ∧ Fr (· = m) w w' := by
  obtain ⟨es, clock, hb, hs, he⟩ := h
  have hfr : ∀ o, Fr (· = m) w { w with heap := w.heap.setIfInBounds m o } := fun o => ⟨rfl, rfl, rfl, by simp, fun i _ hn => (heap_set hb).2 i hn⟩
  rcases find_from s es.toList l 0 he with ⟨g1, g2, g3, g4, g5⟩ | ⟨j, u, e', g1, g2, g3, g4, g5, g6⟩
  · exact ⟨_, by simp [Builtin.delete_, run_underlying ht, MapKept.run_getObj_map hb, run_checkKey hk (isKey_string s), run_findKey hk g2, MapKept.run_setObj_map _ hb, Result.andThen], ⟨_, _, (heap_set hb).1, hs, by rw [g4]; exact he⟩, hfr _⟩
  · refine ⟨_, by simp [Builtin.delete_, run_underlying ht, MapKept.run_getObj_map hb, run_checkKey hk (isKey_string s), run_findKey hk g2, MapKept.run_setObj_map _ hb, Result.andThen]; rfl, ⟨_, _, (heap_set hb).1, stamped_erase hs _, ?_⟩, hfr _⟩
    rw [g6]
    have hj : j < es.size := (Array.getElem?_eq_some_iff.1 (show es[j]? = some e' by simpa using g3)).1
    have e1 : (es.eraseIdxIfInBounds j).toList = es.toList.eraseIdx j := by
      unfold Array.eraseIdxIfInBounds
      rw [dif_pos hj]
      simp
    rw [e1, map_eraseIdx', he, map_eraseIdx']

theorem MapIs.count (h : MapIs w m l) (ht : P.underlying t = some (.map k e)) (ty : TypeId) :
    (Builtin.len_ #[t] ty #[.map (some m)]).run P w = .ok (.int .i64 l.length) w := by
  obtain ⟨es, clock, hb, hs, he⟩ := h
  have : es.size = l.length := by have := congrArg List.length he; simpa using this
  simp [Builtin.len_, run_underlying ht, MapKept.run_getObj_map hb, Result.andThen, goInt, this]
end

/-! ### 4. The same at the operation, for the walk -/
section
variable {P : Program} {w : World} {ops : Array Oper} {rest : List Oper} {o : Oper} {a : Act} {Q : Exit → Act → World → Prop} {t k e : TypeId} {m : Nat} {l : List (ByteArray × Value)}

theorem wp_look (hg : o.guard = none) (x y : Operand) (c : Bool) (hop : o.op = Op.lookup t x y c) (h : MapIs w m l) (ht : P.underlying t = some (.map k e)) (hk : P.underlying k = some .string) {z : Value} (hz : ∀ w, (zeroValue e).run P w = .ok z w)
    (hx : a.eval x = .map (some m)) (s : ByteArray) (hy : a.eval y = .string s)
    (hK : wpList P ops Q rest (a.put o.dst (if c then .tuple #[(get l s).getD z, .bool (get l s).isSome] else (get l s).getD z)) w) : wpList P ops Q (o :: rest) a w := by
  refine wpList_plain hg fun K' hK' => ?_
  have hr := h.look ht hk hz s c
  unfold Oper.wp
  cases c
  · simp only [Bool.false_eq_true, if_false] at hr hK
    simp [execOp, hop, hx, hy, hr, Result.andThen]
    exact hK' _ _ hK
  · simp only [if_true] at hr hK
    simp [execOp, hop, hx, hy, hr, Result.andThen]
    exact hK' _ _ hK

theorem wp_store (hg : o.guard = none) (x y z : Operand) (hop : o.op = Op.mapUpdate t x y z) (h : MapIs w m l) (ht : P.underlying t = some (.map k e)) (hk : P.underlying k = some .string)
    (hx : a.eval x = .map (some m)) (s : ByteArray) (hy : a.eval y = .string s) (v : Value) (hv : a.eval z = v)
    (hK : ∀ w', MapIs w' m (put l s v) → Fr (· = m) w w' → wpList P ops Q rest (a.put o.dst undef) w') : wpList P ops Q (o :: rest) a w := by
  refine wpList_plain hg fun K' hK' => ?_
  obtain ⟨w', hr, h1, h2⟩ := h.store ht hk s v
  unfold Oper.wp
  simp [execOp, hop, hx, hy, hv, hr, Result.andThen]
  exact hK' _ _ (hK w' h1 h2)

theorem wp_drop (hg : o.guard = none) (x y : Operand) (hop : o.op = Op.call { callee := Callee.builtin Builtin.delete, args := #[x, y], argTypes := #[t, k] }) (h : MapIs w m l) (ht : P.underlying t = some (.map k e)) (hk : P.underlying k = some .string)
    (hx : a.eval x = .map (some m)) (s : ByteArray) (hy : a.eval y = .string s)
    (hK : ∀ w', MapIs w' m (del l s) → Fr (· = m) w w' → wpList P ops Q rest (a.put o.dst (.tuple #[])) w') : wpList P ops Q (o :: rest) a w := by
  refine wpList_plain hg fun K' hK' => ?_
  obtain ⟨w', hr, h1, h2⟩ := h.drop ht hk s o.type
  unfold Oper.wp
  simp [execOp, hop, resolve, invoke, builtin, hx, hy, hr, Result.andThen]
  exact hK' _ _ (hK w' h1 h2)

theorem wp_count (hg : o.guard = none) (x : Operand) (hop : o.op = Op.call { callee := Callee.builtin Builtin.len, args := #[x], argTypes := #[t] }) (h : MapIs w m l) (ht : P.underlying t = some (.map k e))
    (hx : a.eval x = .map (some m)) (hK : wpList P ops Q rest (a.put o.dst (.int .i64 l.length)) w) : wpList P ops Q (o :: rest) a w := by
  refine wpList_plain hg fun K' hK' => ?_
  have hr := h.count (P := P) ht o.type
  unfold Oper.wp
  simp [execOp, hop, resolve, invoke, builtin, hx, hr, Result.andThen]
  exact hK' _ _ hK
end
end Go.Hop

/-
  The disk's plain meaning: files in the order of their names, a fuse, whether it is down. No Go and no memory here.
-/
namespace Go.Hop

/-- the bytes of a string, as a list -/
abbrev bl (s : ByteArray) : List UInt8 := s.data.toList
theorem bl_inj {a b : ByteArray} (h : bl a = bl b) : a = b := by
  obtain ⟨⟨x⟩⟩ := a; obtain ⟨⟨y⟩⟩ := b
  simp only [bl] at h
  rw [h]

/-! ### 1. Lists in the order of their names -/
section
variable {β : Type}
def sput : List (ByteArray × β) → ByteArray → β → List (ByteArray × β)
  | [], k, v => [(k, v)]
  | (a, b) :: t, k, v => if a = k then (k, v) :: t else if bl a < bl k then (a, b) :: sput t k v else (k, v) :: (a, b) :: t
def Srt (l : List (ByteArray × β)) : Prop := l.Pairwise (fun p q => bl p.1 < bl q.1)
/-- the same entries: a map's, in whatever order, and those of a list in order -/
structure Rel (al l : List (ByteArray × β)) : Prop where
  nd : (al.map (·.1)).Nodup
  srt : Srt l
  eq : ∀ k, get al k = get l k

theorem lt_irrefl' (a : List UInt8) : ¬ a < a := List.lt_irrefl a
theorem lt_trans' {a b c : List UInt8} (h : a < b) (k : b < c) : a < c := List.lt_trans h k
theorem lt_tri (a b : ByteArray) (h : a ≠ b) (h2 : ¬ bl a < bl b) : bl b < bl a := by
  rcases List.le_iff_lt_or_eq.1 (List.not_lt.1 h2) with q | q
  · exact q
  · exact absurd (bl_inj q).symm h

theorem get_some_mem {l : List (ByteArray × β)} {k : ByteArray} {v : β} (h : get l k = some v) : (k, v) ∈ l := by
  induction l with
  | nil => cases h
  | cons p t ih =>
    obtain ⟨a, b⟩ := p
    simp only [get] at h
    split at h
    · rename_i e; injection h with h; subst h; subst e; exact List.mem_cons_self
    · exact List.mem_cons_of_mem _ (ih h)
theorem get_none_iff {l : List (ByteArray × β)} {k : ByteArray} : get l k = none ↔ k ∉ l.map (·.1) := by
  induction l with
  | nil => simp [get]
  | cons p t ih =>
    obtain ⟨a, b⟩ := p
    simp only [get, List.map_cons, List.mem_cons]
    by_cases e : a = k
    · simp [e]
    · have : ¬ k = a := fun q => e q.symm
      simp [e, this, ih]
theorem get_of_mem {l : List (ByteArray × β)} (hn : (l.map (·.1)).Nodup) {k : ByteArray} {v : β} (h : (k, v) ∈ l) : get l k = some v := by
  induction l with
  | nil => cases h
  | cons p t ih =>
    obtain ⟨a, b⟩ := p
    simp only [List.map_cons, List.nodup_cons] at hn
    simp only [get]
    cases h with
    | head => simp
    | tail _ h =>
      have hm : k ∈ t.map (·.1) := List.mem_map.2 ⟨(k, v), h, rfl⟩
      rw [if_neg (fun e => by subst e; exact hn.1 hm)]
      exact ih hn.2 h
theorem Srt.nodup {l : List (ByteArray × β)} (h : Srt l) : (l.map (·.1)).Nodup := by
  unfold Srt at h
  rw [List.Nodup, List.pairwise_map]
  exact h.imp (fun {a b} q e => by rw [e] at q; exact lt_irrefl' _ q)
theorem get_put (l : List (ByteArray × β)) (k : ByteArray) (v : β) (k' : ByteArray) : get (put l k v) k' = if k = k' then some v else get l k' := by
  induction l with
  | nil => simp [put, get]
  | cons p t ih =>
    obtain ⟨a, b⟩ := p
    simp only [put]
    by_cases e : a = k
    · subst e; simp only [if_true, get]; split <;> simp_all
    · rw [if_neg e]; simp only [get, ih]
      by_cases e2 : a = k'
      · subst e2; rw [if_pos rfl, if_pos rfl, if_neg (fun q => e q.symm)]
      · rw [if_neg e2, if_neg e2]
theorem keys_put (l : List (ByteArray × β)) (k : ByteArray) (v : β) : (put l k v).map (·.1) = if (get l k).isSome then l.map (·.1) else l.map (·.1) ++ [k] := by
  induction l with
  | nil => simp [put, get]
  | cons p t ih =>
    obtain ⟨a, b⟩ := p
    by_cases e : a = k
    · subst e; simp [put, get]
    · have h1 : put ((a, b) :: t) k v = (a, b) :: put t k v := by simp [put, e]
      have h2 : get ((a, b) :: t) k = get t k := by simp [get, e]
      rw [h1, List.map_cons, ih, h2]
      split <;> simp
theorem nodup_put {l : List (ByteArray × β)} (h : (l.map (·.1)).Nodup) (k : ByteArray) (v : β) : ((put l k v).map (·.1)).Nodup := by
  rw [keys_put]
  split
  · exact h
  · rename_i q
    have q' : get l k = none := by cases hg : get l k <;> simp [hg] at q ⊢
    rw [get_none_iff] at q'
    rw [List.nodup_append]
    exact ⟨h, by simp, fun a ha b hb => by simp at hb; subst hb; exact fun e => q' (e ▸ ha)⟩
theorem sub_del (l : List (ByteArray × β)) (k : ByteArray) : (del l k).Sublist l := by
  induction l with
  | nil => exact List.Sublist.refl _
  | cons p t ih =>
    obtain ⟨a, b⟩ := p
    simp only [del]
    split
    · exact List.sublist_cons_self _ _
    · exact ih.cons_cons _
theorem nodup_del {l : List (ByteArray × β)} (h : (l.map (·.1)).Nodup) (k : ByteArray) : ((del l k).map (·.1)).Nodup := ((sub_del l k).map _).nodup h
theorem get_del {l : List (ByteArray × β)} (h : (l.map (·.1)).Nodup) (k k' : ByteArray) : get (del l k) k' = if k = k' then none else get l k' := by
  induction l with
  | nil => simp [del, get]
  | cons p t ih =>
    obtain ⟨a, b⟩ := p
    simp only [List.map_cons, List.nodup_cons] at h
    simp only [del]
    by_cases e : a = k
    · subst e
      rw [if_pos rfl]
      simp only [get]
      by_cases e2 : a = k'
      · subst e2; rw [if_pos rfl]; exact get_none_iff.2 h.1
      · rw [if_neg e2, if_neg e2]
    · rw [if_neg e]; simp only [get, ih h.2]
      by_cases e2 : a = k'
      · subst e2; rw [if_pos rfl, if_pos rfl, if_neg (fun q => e q.symm)]
      · rw [if_neg e2, if_neg e2]
theorem Srt.del {l : List (ByteArray × β)} (h : Srt l) (k : ByteArray) : Srt (del l k) := h.sublist (sub_del l k)
theorem mem_sput {l : List (ByteArray × β)} {k : ByteArray} {v : β} {q : ByteArray × β} (h : q ∈ sput l k v) : q = (k, v) ∨ q ∈ l := by
  induction l with
  | nil => simp [sput] at h; exact .inl h
  | cons p t ih =>
    obtain ⟨a, b⟩ := p
    simp only [sput] at h
    split at h
    · cases h with
      | head => exact .inl rfl
      | tail _ h => exact .inr (List.mem_cons_of_mem _ h)
    · split at h
      · cases h with
        | head => exact .inr List.mem_cons_self
        | tail _ h => exact (ih h).imp id (List.mem_cons_of_mem _)
      · cases h with
        | head => exact .inl rfl
        | tail _ h => exact .inr h
theorem Srt.sput {l : List (ByteArray × β)} (h : Srt l) (k : ByteArray) (v : β) : Srt (sput l k v) := by
  induction l with
  | nil => simp [Hop.sput, Srt]
  | cons p t ih =>
    obtain ⟨a, b⟩ := p
    have h1 := List.pairwise_cons.1 h
    simp only [Hop.sput]
    split
    · rename_i e; subst e
      exact List.pairwise_cons.2 ⟨h1.1, h1.2⟩
    · rename_i e
      split
      · rename_i e2
        refine List.pairwise_cons.2 ⟨fun q hq => ?_, ih h1.2⟩
        rcases mem_sput hq with rfl | hq
        · exact e2
        · exact h1.1 q hq
      · rename_i e2
        have hk := lt_tri a k e e2
        refine List.pairwise_cons.2 ⟨fun q hq => ?_, h⟩
        cases hq with
        | head => exact hk
        | tail _ hq => exact lt_trans' hk (h1.1 q hq)
theorem get_above {l : List (ByteArray × β)} {k : ByteArray} (h : ∀ q ∈ l, bl k < bl q.1) : get l k = none := by
  rw [get_none_iff]
  intro hm
  obtain ⟨q, hq, rfl⟩ := List.mem_map.1 hm
  exact lt_irrefl' _ (h q hq)
theorem get_sput {l : List (ByteArray × β)} (h : Srt l) (k : ByteArray) (v : β) (k' : ByteArray) : get (sput l k v) k' = if k = k' then some v else get l k' := by
  induction l with
  | nil => simp [sput, get]
  | cons p t ih =>
    obtain ⟨a, b⟩ := p
    have h1 := List.pairwise_cons.1 h
    simp only [sput]
    by_cases e : a = k
    · subst e; rw [if_pos rfl]; simp only [get]; split <;> simp_all
    · rw [if_neg e]
      by_cases e2 : bl a < bl k
      · rw [if_pos e2]; simp only [get, ih h1.2]
        by_cases e3 : a = k'
        · subst e3; rw [if_pos rfl, if_pos rfl, if_neg (fun q => e q.symm)]
        · rw [if_neg e3, if_neg e3]
      · rw [if_neg e2]; simp only [get]
theorem Rel.put {al l : List (ByteArray × β)} (h : Rel al l) (k : ByteArray) (v : β) : Rel (put al k v) (sput l k v) :=
  ⟨nodup_put h.nd k v, h.srt.sput k v, fun k' => by rw [get_put, get_sput h.srt, h.eq]⟩
theorem Rel.del {al l : List (ByteArray × β)} (h : Rel al l) (k : ByteArray) : Rel (del al k) (del l k) :=
  ⟨nodup_del h.nd k, h.srt.del k, fun k' => by rw [get_del h.nd, get_del h.srt.nodup, h.eq]⟩
theorem Rel.perm {al l : List (ByteArray × β)} (h : Rel al l) : (al.map (·.1)).Perm (l.map (·.1)) := by
  rw [List.perm_ext_iff_of_nodup h.nd h.srt.nodup]
  intro k
  have h1 : k ∉ al.map (·.1) ↔ k ∉ l.map (·.1) := by rw [← get_none_iff, ← get_none_iff, h.eq]
  exact ⟨fun h => Classical.byContradiction (fun q => h1.2 q h), fun h => Classical.byContradiction (fun q => h1.1 q h)⟩
theorem Rel.length {al l : List (ByteArray × β)} (h : Rel al l) : al.length = l.length := by simpa using h.perm.length_eq
theorem Rel.nil : Rel ([] : List (ByteArray × β)) [] := ⟨by simp, List.Pairwise.nil, fun _ => rfl⟩
end

/-! ### 2. The disk -/
def okByte (c : UInt8) : Bool := (decide (97 ≤ c.toNat) && decide (c.toNat ≤ 122)) || ((decide (48 ≤ c.toNat) && decide (c.toNat ≤ 57)) || c.toNat == 46)
def named (s : ByteArray) : Bool := decide (0 < s.size) && (decide (s.size ≤ 32) && (bl s).all okByte)

theorem named_size {s : ByteArray} (h : named s = true) : s.size ≤ 32 := by
  simp only [named, Bool.and_eq_true, decide_eq_true_eq] at h
  exact h.2.1

abbrev File := ByteArray × Int
structure DSt where
  files : List (ByteArray × File)
  fuse : Option Nat
  down : Bool
def DSt.new : DSt := ⟨[], none, false⟩

def chg (s : DSt) : Bool × DSt :=
  if s.down = true ∨ s.fuse = some 0 then (false, { s with down := true }) else (true, { s with fuse := s.fuse.map (· - 1) })

def fileAt (s : DSt) (name : ByteArray) : File := (get s.files name).getD (⟨#[]⟩, 0)

def dappend (s : DSt) (name data : ByteArray) : Int × DSt :=
  if named name = false then (10, s)
  else if 262144 < (fileAt s name).1.size + data.size ∨ (get s.files name = none ∧ 64 ≤ s.files.length) then (2, s)
  else if (chg s).1 = false then (11, (chg s).2)
  else (0, { (chg s).2 with files := sput s.files name ((fileAt s name).1 ++ data, (fileAt s name).2) })

def dknown (s : DSt) (name : ByteArray) : Int := if named name = false then 10 else if get s.files name = none then 5 else 0
def dalter (s : DSt) (name : ByteArray) : Int × DSt :=
  if dknown s name = 0 then (if (chg s).1 = false then (11, (chg s).2) else (0, (chg s).2)) else (dknown s name, s)
def dsync (s : DSt) (name : ByteArray) : Int × DSt :=
  ((dalter s name).1, if (dalter s name).1 = 0 then { (dalter s name).2 with files := sput s.files name ((fileAt s name).1, (fileAt s name).1.size) } else (dalter s name).2)
def drename (s : DSt) (a b : ByteArray) : Int × DSt :=
  if named a = false ∨ named b = false then (10, s)
  else ((dalter s a).1, if (dalter s a).1 = 0 then (if a = b then (dalter s a).2 else { (dalter s a).2 with files := sput (del s.files a) b (fileAt s a) }) else (dalter s a).2)
def dremove (s : DSt) (name : ByteArray) : Int × DSt :=
  ((dalter s name).1, if (dalter s name).1 = 0 then { (dalter s name).2 with files := del s.files name } else (dalter s name).2)
def dread (s : DSt) (name : ByteArray) : ByteArray × Int := (if dknown s name = 0 then (fileAt s name).1 else ⟨#[]⟩, dknown s name)
def dfuse (s : DSt) (n : Int) : Int × DSt := if n < 0 then (1, s) else (0, { s with fuse := some n.toNat })
/-- what is torn of a file, by a draw -/
def torn (f : File) (d : Int) : File := let k := f.2 + (max 0 d) % ((f.1.size : Int) - f.2 + 1); (f.1.extract 0 k.toNat, k)
def tear : List (ByteArray × File) → List Int → List (ByteArray × File)
  | [], _ => []
  | (k, f) :: t, ds => if (f.1.size : Int) - f.2 = 0 then (k, f) :: tear t ds else (k, torn f (ds.headD 0)) :: tear t ds.tail
def dcrash (s : DSt) (ds : List Int) : Int × DSt := if 4096 < ds.length then (2, s) else (0, ⟨tear s.files ds, none, false⟩)

/-- what holds of every disk -/
structure DSt.Ok (s : DSt) : Prop where
  srt : Srt s.files
  few : s.files.length ≤ 64
  fit : ∀ p ∈ s.files, p.2.1.size ≤ 262144 ∧ 0 ≤ p.2.2 ∧ p.2.2 ≤ p.2.1.size
  nam : ∀ p ∈ s.files, p.1.size ≤ 32
  short : s.fuse.getD 0 ≤ 9223372036854775807
theorem DSt.Ok.new : DSt.new.Ok := ⟨List.Pairwise.nil, by simp [DSt.new], by simp [DSt.new], by simp [DSt.new], by simp [DSt.new]⟩
theorem chg_files (s : DSt) : (chg s).2.files = s.files := by unfold chg; split <;> rfl
theorem DSt.Ok.chg {s : DSt} (h : s.Ok) : (chg s).2.Ok := by
  refine ⟨by rw [chg_files]; exact h.srt, by rw [chg_files]; exact h.few, by rw [chg_files]; exact h.fit, by rw [chg_files]; exact h.nam, ?_⟩
  have := h.short
  unfold Hop.chg
  split
  · exact this
  · cases hf : s.fuse with
    | none => simp
    | some n => simp [hf] at this ⊢; omega
theorem DSt.Ok.file {s : DSt} (h : s.Ok) (name : ByteArray) : (fileAt s name).1.size ≤ 262144 ∧ 0 ≤ (fileAt s name).2 ∧ (fileAt s name).2 ≤ (fileAt s name).1.size := by
  unfold fileAt
  cases hg : get s.files name with
  | none => exact ⟨Nat.zero_le _, Int.le_refl _, Int.natCast_nonneg _⟩
  | some f => exact h.fit _ (get_some_mem hg)

/-! ### 3. A crash, file by file -/
def tstep (f : File) (ds : List Int) : File × List Int := if (f.1.size : Int) - f.2 = 0 then (f, ds) else (torn f (ds.headD 0), ds.tail)
def tearN : Nat → List (ByteArray × File) → List Int → List (ByteArray × File) × List Int
  | 0, fs, ds => (fs, ds)
  | _ + 1, [], ds => ([], ds)
  | k + 1, (n, f) :: t, ds => ((n, (tstep f ds).1) :: (tearN k t (tstep f ds).2).1, (tearN k t (tstep f ds).2).2)
theorem tearN_all : ∀ (fs : List (ByteArray × File)) (ds : List Int), (tearN fs.length fs ds).1 = tear fs ds
  | [], _ => rfl
  | (n, f) :: t, ds => by
    simp only [List.length_cons, tearN, tear, tstep]
    split
    · rw [tearN_all t]
    · rw [tearN_all t]
theorem tearN_keys : ∀ (k : Nat) (fs : List (ByteArray × File)) (ds : List Int), (tearN k fs ds).1.map (·.1) = fs.map (·.1)
  | 0, _, _ => rfl
  | _ + 1, [], _ => rfl
  | k + 1, (n, f) :: t, ds => by simp [tearN, tearN_keys k t]
theorem tearN_get : ∀ (k : Nat) (fs : List (ByteArray × File)) (ds : List Int) (p : ByteArray × File), fs[k]? = some p → (tearN k fs ds).1[k]? = some p
  | 0, _, _, _, h => h
  | _ + 1, [], _, _, h => by simp at h
  | k + 1, (n, f) :: t, ds, p, h => by simpa [tearN] using tearN_get k t (tstep f ds).2 p (by simpa using h)
theorem tearN_succ : ∀ (k : Nat) (fs : List (ByteArray × File)) (ds : List Int) (p : ByteArray × File), fs[k]? = some p →
    tearN (k + 1) fs ds = ((tearN k fs ds).1.set k (p.1, (tstep p.2 (tearN k fs ds).2).1), (tstep p.2 (tearN k fs ds).2).2)
  | _, [], _, _, h => by simp at h
  | 0, (n, f) :: t, ds, p, h => by
    simp only [List.getElem?_cons_zero, Option.some.injEq] at h
    subst h
    simp [tearN]
  | k + 1, (n, f) :: t, ds, p, h => by
    have ih := tearN_succ k t (tstep f ds).2 p (by simpa using h)
    rw [tearN, ih]
    simp [tearN]
theorem tearN_len (k : Nat) (fs : List (ByteArray × File)) (ds : List Int) : (tearN k fs ds).1.length = fs.length := by
  have := congrArg List.length (tearN_keys k fs ds)
  simpa using this
theorem Srt.of_keys {β : Type} {l l' : List (ByteArray × β)} (h : Srt l) (e : l'.map (·.1) = l.map (·.1)) : Srt l' := by
  have h1 : (l.map (·.1)).Pairwise (fun a b => bl a < bl b) := by rw [List.pairwise_map]; exact h
  rw [← e, List.pairwise_map] at h1
  exact h1
theorem sput_at {β : Type} : ∀ {l : List (ByteArray × β)} (_ : Srt l) (k : Nat) (p : ByteArray × β) (v : β), l[k]? = some p → sput l p.1 v = l.set k (p.1, v)
  | [], _, _, _, _, h => by simp at h
  | (a, b) :: t, hs, 0, p, v, h => by
    simp only [List.getElem?_cons_zero, Option.some.injEq] at h
    subst h
    simp [sput]
  | (a, b) :: t, hs, k + 1, p, v, h => by
    have h1 := List.pairwise_cons.1 hs
    have hm : p ∈ t := List.mem_of_getElem? (by simpa using h)
    have hlt := h1.1 p hm
    have hne : a ≠ p.1 := fun e => by simp only at hlt; rw [e] at hlt; exact lt_irrefl' _ hlt
    simp only [sput]
    rw [if_neg hne, if_pos hlt, sput_at h1.2 k p v (by simpa using h)]
    simp
theorem get_at {β : Type} {l : List (ByteArray × β)} (h : Srt l) (k : Nat) (p : ByteArray × β) (hk : l[k]? = some p) : get l p.1 = some p.2 := get_of_mem h.nodup (List.mem_of_getElem? hk)
theorem torn_fit (f : File) (d : Int) (h : f.1.size ≤ 262144 ∧ 0 ≤ f.2 ∧ f.2 ≤ f.1.size) : (torn f d).1.size ≤ 262144 ∧ 0 ≤ (torn f d).2 ∧ (torn f d).2 ≤ (torn f d).1.size := by
  have h1 := Int.emod_nonneg (max 0 d) (show ((f.1.size : Int) - f.2 + 1) ≠ 0 by omega)
  have h2 := Int.emod_lt_of_pos (max 0 d) (show 0 < ((f.1.size : Int) - f.2 + 1) by omega)
  have e : (f.1.extract 0 (f.2 + max 0 d % ((f.1.size : Int) - f.2 + 1)).toNat).size = (f.2 + max 0 d % ((f.1.size : Int) - f.2 + 1)).toNat := by
    rw [ByteArray.size_extract]; omega
  simp only [torn, e]
  omega
theorem tstep_fit (f : File) (ds : List Int) (h : f.1.size ≤ 262144 ∧ 0 ≤ f.2 ∧ f.2 ≤ f.1.size) : (tstep f ds).1.1.size ≤ 262144 ∧ 0 ≤ (tstep f ds).1.2 ∧ (tstep f ds).1.2 ≤ (tstep f ds).1.1.size := by
  unfold tstep; split
  · exact h
  · exact torn_fit f _ h
end Go.Hop

namespace Go.Proofs.Ythmjjbgjbcnjmaa
open Go.RowKit Go.Hop

theorem all_take_succ (s : ByteArray) (p : UInt8 → Bool) (k : Nat) (h : k < s.size) : ((bl s).take (k + 1)).all p = (((bl s).take k).all p && p s[k]) := by
  have : (bl s).take (k + 1) = (bl s).take k ++ [s[k]] := by
    rw [List.take_succ_eq_append_getElem (by simpa using h)]; rfl
  rw [this]; simp
theorem all_of_take {s : ByteArray} {p : UInt8 → Bool} {k : Nat} (h : s.size ≤ k) : ((bl s).take k).all p = (bl s).all p := by
  rw [List.take_of_length_le (by simpa using h)]
theorem all_false_of_take {s : ByteArray} {p : UInt8 → Bool} {k : Nat} (h : ((bl s).take k).all p = false) : (bl s).all p = false := by
  rw [List.all_eq_false] at h ⊢
  obtain ⟨x, hx, hp⟩ := h
  exact ⟨x, List.mem_of_mem_take hx, hp⟩

set_option maxHeartbeats 400000 in
theorem may_any (s : ByteArray) (w : World) (hs : s.size ≤ 140737488351232) :
    Calls Try.prog 72 #[.string s] w fun e w' => e = .returned (.bool (named s)) ∧ w = w' := by
  by_cases h0 : s.size = 0
  · have hE : s.toList.isEmpty = true := by rw [Lib.toList_data]; obtain ⟨⟨l⟩⟩ := s; simp at h0; rw [h0]; rfl
    have Hn : named s = false := by simp [named, h0]
    have H0 := Lib.hid h0
    have HN := Lib.hid Hn
    clear h0 Hn
    go_enter Try.func72, Try.ntmps72
    go_wp2
    go_ret
    exact ⟨by rw [HN.out]; rfl, rfl⟩
  have hE : s.toList.isEmpty = false := by rw [Lib.toList_data]; obtain ⟨⟨l⟩⟩ := s; simp at h0 ⊢; intro q; subst q; exact h0 rfl
  by_cases h1 : 32 < s.size
  · have HN := Lib.hid (show named s = false by simp [named]; omega)
    go_enter Try.func72, Try.ntmps72
    go_wp2
    go_ret
    exact ⟨by rw [HN.out]; rfl, rfl⟩
  have h1' : s.size ≤ 32 := by omega
  have HN := Lib.hid (show named s = (bl s).all okByte by unfold named; rw [decide_eq_true (show 0 < s.size by omega), decide_eq_true h1']; rfl)
  clear h0 h1
  go_enter Try.func72, Try.ntmps72
  go_wp2
  go_loop [14] (fun i => ∃ k : Nat, k ≤ s.size ∧ i = .int .i64 k ∧ ((bl s).take k).all okByte = true) (fun i => s.size - (intOf i).toNat)
  case atStart => exact ⟨0, by omega, rfl, by simp⟩
  case round =>
    obtain ⟨k, hk, rfl, hall⟩ := hrel
    have HA := Lib.hid hall
    clear hall
    by_cases hlt : k < s.size
    · have hsn := Lib.hid (all_take_succ s okByte k hlt)
      go_wp2
      all_goals first
        | (have ok : okByte s[k] = true := by ((try simp only [beq_iff_eq] at *); (try simp only [beq_eq_false_iff_ne] at *); simp [okByte]; omega)
           go_round
           case rel => exact ⟨k + 1, by omega, by go_num, by rw [hsn.out, HA.out, ok]; rfl⟩
           case measure => (simp [intOf]; omega))
        | (have ok : okByte s[k] = false := by ((try simp only [beq_iff_eq] at *); (try simp only [beq_eq_false_iff_ne] at *); simp [okByte]; omega)
           go_ret
           exact ⟨by rw [HN.out, all_false_of_take (k := k + 1) (by rw [hsn.out, ok]; simp)]; rfl, rfl⟩)
    · go_wp2
      go_ret
      exact ⟨by rw [HN.out, ← all_of_take (k := k) (by omega), HA.out]; rfl, rfl⟩
end Go.Proofs.Ythmjjbgjbcnjmaa

/-
  Rows of elements of several cells: owned, read, cut, appended.
-/
namespace Go.Hop
open Go.RowKit

/-- t is the type of slices of e, whose elements have so many cells and bytes -/
def El (P : Program) (t e size bytes : Nat) : Prop :=
  P.underlying t = some (.slice e) ∧ 0 < size ∧ ∃ i z, P.info? e = some i ∧ i.zero = some z ∧ i.size = size ∧ i.bytes = bytes ∧ z.cells.size = size
theorem El.mk_ {P : Program} {t e size bytes : Nat} (z : Value) (h : P.underlying t = some (.slice e)) (hs : 0 < size) (hz : z.cells.size = size) (hi : (P.info? e).map (fun i => (i.zero, i.size, i.bytes)) = some (some z, size, bytes)) : El P t e size bytes := by
  obtain ⟨i, h1, h2, h3, h4⟩ := info_parts hi
  exact ⟨h, hs, i, z, h1, h2, h3, h4, hz⟩

theorem add_at (b off j : Nat) : (⟨b, off, none⟩ : Addr).add j = ⟨b, off + j, none⟩ := by unfold Addr.add; split <;> simp_all

/-- v is a slice of n elements that reads as these cells -/
def Rc (w : World) (size : Nat) (v : Value) (n : Nat) (cs : List Value) : Prop :=
  ∃ A c, v = .slice A n c ∧ n ≤ c ∧ cs.length = n * size ∧ (∀ u ∈ cs, u.oneCell' = true) ∧ (∀ j u, cs[j]? = some u → ∃ b off, A = some ⟨b, off, none⟩ ∧ w.cell? ⟨b, off + j, none⟩ = some u)
theorem Rc.keep {S : Nat → Prop} {w w' : World} {size n : Nat} {v : Value} {cs : List Value} (h : Rc w size v n cs) (hf : Fr S w w') (hn : ∀ k, v.ownBlock = some k → ¬ S k) : Rc w' size v n cs := by
  obtain ⟨A, c, rfl, hc, hl, h1, hx⟩ := h
  refine ⟨A, c, rfl, hc, hl, h1, fun j u hj => ?_⟩
  obtain ⟨b, off, rfl, hcell⟩ := hx j u hj
  exact ⟨b, off, rfl, hf.cell hcell (hn b rfl)⟩
theorem Rc.of_owns {w : World} {base size n : Nat} {e : TypeId} {v : Value} {xs : List Value} (h : w.ownsRow base e size v n xs) (h1 : ∀ u ∈ xs, u.oneCell' = true) : Rc w size v n xs := by
  rcases h.2 with ⟨rfl, h0⟩ | ⟨g, cap, cur, rfl, hb, hg, hcap, _, _, ht⟩
  · subst h0
    have : xs = [] := List.eq_nil_of_length_eq_zero (by simpa using h.1)
    subst this
    exact ⟨none, 0, rfl, Nat.le_refl _, by simp, h1, fun j x hj => by simp at hj⟩
  · refine ⟨_, cap, rfl, hcap, h.1, h1, fun j x hj => ⟨g, 0, rfl, ?_⟩⟩
    have := h.cells (g := g) rfl j x hj
    rw [add_at] at this
    exact this
/-- the first k -/
theorem Rc.take {w : World} {size n : Nat} {A : Option Addr} {c : Nat} {cs : List Value} (h : Rc w size (.slice A n c) n cs) (k : Nat) (hk : k ≤ n) : Rc w size (.slice A k c) k (cs.take (k * size)) := by
  obtain ⟨A', c', e, hc, hl, h1, hx⟩ := h
  injection e with e1 _ e3
  subst e1 e3
  have hle : k * size ≤ n * size := Nat.mul_le_mul_right _ hk
  refine ⟨A, c, rfl, by omega, by rw [List.length_take, hl]; omega, fun u hu => h1 u (List.mem_of_mem_take hu), fun j u hj => hx j u ?_⟩
  rw [List.getElem?_take] at hj
  split at hj
  · exact hj
  · cases hj
/-- from k on -/
theorem Rc.drop {w : World} {size n : Nat} {A : Option Addr} {c : Nat} {cs : List Value} (h : Rc w size (.slice A n c) n cs) (k : Nat) (hk : k ≤ n) :
    Rc w size (.slice (if c = k then A else A.map (·.add (k * size))) (n - k) (c - k)) (n - k) (cs.drop (k * size)) := by
  obtain ⟨A', c', e, hc, hl, h1, hx⟩ := h
  injection e with e1 _ e3
  subst e1 e3
  refine ⟨_, _, rfl, by omega, by rw [List.length_drop, hl, Nat.sub_mul], fun u hu => h1 u (List.mem_of_mem_drop hu), fun j u hj => ?_⟩
  rw [List.getElem?_drop] at hj
  obtain ⟨b, off, rfl, hcell⟩ := hx _ u hj
  have hlt : k * size + j < cs.length := (List.getElem?_eq_some_iff.1 hj).1
  have hck : c ≠ k := by
    intro q
    have : n = k := by omega
    subst this
    rw [hl] at hlt
    omega
  refine ⟨b, off + k * size, by rw [if_neg hck]; simp [add_at], ?_⟩
  rw [Nat.add_assoc]
  exact hcell

section
variable {P : Program} {w : World} {ops : Array Oper} {rest : List Oper} {o : Oper} {a : Act} {Q : Exit → Act → World → Prop}

theorem run_append_none (t ty e : TypeId) {size bytes : Nat} (hE : El P t e size bytes) {base n : Nat} {v : Value} {xs : List Value} (hown : w.ownsRow base e size v n xs) (c : Nat) :
    (Builtin.append_ #[t, t] ty #[v, .slice none 0 c]).run P w = .ok v w := by
  obtain ⟨ht, hs, i, z, hi, hz, hsize, hby, hzs⟩ := hE
  rcases hown.2 with ⟨rfl, rfl⟩ | ⟨g, cap, cur, rfl, hb, hg, hcap, _⟩
  · simp [Builtin.append_, run_underlying ht, sizeOf, typeInfo, hi, Builtin.lenOf, Builtin.firstCells, Result.andThen]
  · simp [Builtin.append_, run_underlying ht, sizeOf, typeInfo, hi, Builtin.lenOf, Builtin.firstCells, hcap, Result.andThen, storeCells]

/-- append(v, ys...): v a row of the call's own, ys whatever is read -/
theorem wp_append (hgd : o.guard = none) (s x : Operand) (t : TypeId) (ho : o.op = .call { callee := .builtin .append, args := #[s, x], argTypes := #[t, t] })
    {base e size bytes : Nat} (hE : El P t e size bytes) (v : Value) (n : Nat) (xs : List Value) (hs : a.eval s = v) (hown : w.ownsRow base e size v n xs)
    (y : Value) (m : Nat) (news : List Value) (hx : a.eval x = y) (hr : Rc w size y m news)
    (h63 : n + m ≤ maxLen) (hbytes : (n + m) * bytes ≤ 140737488355328) (hbase : base ≤ w.heap.size)
    (h : ∀ v' w', w'.ownsRow base e size v' (n + m) (xs ++ news) → w.grownBy w' v.ownBlock → (v'.ownBlock = v.ownBlock ∨ v'.ownBlock = some w.heap.size) → wpList P ops Q rest (a.put o.dst v') w') :
    wpList P ops Q (o :: rest) a w := by
  obtain ⟨A, c, rfl, hc, hl, h1, hcell⟩ := hr
  cases A with
  | none =>
    have hm : m = 0 := by
      rcases Nat.eq_zero_or_pos m with q | q
      · exact q
      · have hpos : 0 < news.length := by rw [hl]; exact Nat.mul_pos q hE.2.1
        obtain ⟨b, off, q2, _⟩ := hcell 0 news[0] (List.getElem?_eq_getElem hpos)
        cases q2
    subst hm
    have hn : news = [] := List.eq_nil_of_length_eq_zero (by simpa using hl)
    subst hn
    refine wpList_plain hgd fun K hK => ?_
    have hrun := run_append_none (ty := o.type) t e hE hown c
    unfold Oper.wp
    simp [execOp, ho, resolve, invoke, builtin, hs, hx, hrun, Result.andThen]
    exact hK _ _ (h v w (by simpa using hown) ⟨rfl, rfl, rfl, Nat.le_refl _, fun _ _ _ => rfl⟩ (.inl rfl))
  | some ad =>
    obtain ⟨ht, hsz, i, z, hi, hz, hsize, hby, hzs⟩ := hE
    refine wpList_append_own_at w hgd s x t ho base e i z size bytes ht hi hz hsize hby hzs hsz v n xs hs hown ad m c news hx hl (fun j u hj => ?_) h1 h63 hbytes hbase (fun v' w' q1 q2 _ q4 => h v' w' q1 q2 q4)
    obtain ⟨b, off, q, hcc⟩ := hcell j u hj
    injection q with q
    subst q
    rw [add_at]
    exact hcc
end
end Go.Hop

namespace Go.Proofs.Ythmjjbgjbcnjmaa
open Go.RowKit Go.Hop

set_option maxHeartbeats 400000 in
theorem named_any (s : ByteArray) (w : World) (hs : s.size ≤ 140737488351232) :
    Calls Try.prog 74 #[.string s] w fun e w' => e = .returned (.bool (named s)) ∧ w = w' := by
  by_cases h0 : s.size = 0
  · have hE : s.toList.isEmpty = true := by rw [Lib.toList_data]; obtain ⟨⟨l⟩⟩ := s; simp at h0; rw [h0]; rfl
    have Hn : named s = false := by simp [named, h0]
    have H0 := Lib.hid h0
    have HN := Lib.hid Hn
    clear h0 Hn
    go_enter Try.func74, Try.ntmps74
    go_wp2
    go_ret
    exact ⟨by rw [HN.out]; rfl, rfl⟩
  have hE : s.toList.isEmpty = false := by rw [Lib.toList_data]; obtain ⟨⟨l⟩⟩ := s; simp at h0 ⊢; intro q; subst q; exact h0 rfl
  by_cases h1 : 32 < s.size
  · have HN := Lib.hid (show named s = false by simp [named]; omega)
    go_enter Try.func74, Try.ntmps74
    go_wp2
    go_ret
    exact ⟨by rw [HN.out]; rfl, rfl⟩
  have h1' : s.size ≤ 32 := by omega
  have HN := Lib.hid (show named s = (bl s).all okByte by unfold named; rw [decide_eq_true (show 0 < s.size by omega), decide_eq_true h1']; rfl)
  clear h0 h1
  go_enter Try.func74, Try.ntmps74
  go_wp2
  go_loop [3] (fun i => ∃ k : Nat, k ≤ s.size ∧ i = .int .i64 k ∧ ((bl s).take k).all okByte = true) (fun i => s.size - (intOf i).toNat)
  case atStart => exact ⟨0, by omega, rfl, by simp⟩
  case round =>
    obtain ⟨k, hk, rfl, hall⟩ := hrel
    have HA := Lib.hid hall
    clear hall
    by_cases hlt : k < s.size
    · have hsn := Lib.hid (all_take_succ s okByte k hlt)
      have hok : okByte s[k] = ((decide (97 ≤ (s[k].toNat : Int)) && decide ((s[k].toNat : Int) ≤ 122)) || ((decide (48 ≤ (s[k].toNat : Int)) && decide ((s[k].toNat : Int) ≤ 57)) || ((s[k].toNat : Int) == 46))) := by
        rw [Bool.eq_iff_iff]; simp [okByte]; omega
      cases e1 : decide (97 ≤ (s[k].toNat : Int)) <;> cases e2 : decide ((s[k].toNat : Int) ≤ 122) <;> cases e3 : decide (48 ≤ (s[k].toNat : Int)) <;> cases e4 : decide ((s[k].toNat : Int) ≤ 57) <;> cases e5 : ((s[k].toNat : Int) == 46)
      all_goals first
        | (exfalso; simp only [decide_eq_true_eq, decide_eq_false_iff_not, beq_iff_eq, beq_eq_false_iff_ne] at e1 e2 e3 e4 e5; omega)
        | (rw [e1, e2, e3, e4, e5] at hok
           have Hok := Lib.hid (show okByte s[k] = true from hok)
           clear hok
           go_wp2
           go_round
           case rel => exact ⟨k + 1, by omega, by go_num, by rw [hsn.out, HA.out, Hok.out]; rfl⟩
           case measure => (simp [intOf]; omega))
        | (rw [e1, e2, e3, e4, e5] at hok
           have Hok := Lib.hid (show okByte s[k] = false from hok)
           clear hok
           go_wp2
           go_ret
           exact ⟨by rw [HN.out, all_false_of_take (k := k + 1) (by rw [hsn.out, Hok.out]; simp)]; rfl, rfl⟩)
    · go_wp2
      go_ret
      exact ⟨by rw [HN.out, ← all_of_take (k := k) (by omega), HA.out]; rfl, rfl⟩
end Go.Proofs.Ythmjjbgjbcnjmaa

namespace Go.Proofs.Ythmjjbgjbcnjmaa
open Go.RowKit Go.Hop

/-- a file of the reference's: its name, its bytes, how many are safe -/
def fcell (p : ByteArray × File) : List Value := [.string p.1, .string p.2.1, .int .i64 p.2.2]
def fcells (l : List (ByteArray × File)) : List Value := l.flatMap fcell
theorem fcells_length (l : List (ByteArray × File)) : (fcells l).length = l.length * 3 := by
  induction l with
  | nil => rfl
  | cons p t ih => simp only [fcells, List.flatMap_cons, List.length_append] at ih ⊢; rw [ih]; simp [fcell]; omega
theorem fcells_one (l : List (ByteArray × File)) : ∀ u ∈ fcells l, u.oneCell' = true := by
  intro u hu
  obtain ⟨p, _, hp⟩ := List.mem_flatMap.1 hu
  simp only [fcell, List.mem_cons, List.not_mem_nil, or_false] at hp
  rcases hp with rfl | rfl | rfl <;> rfl
theorem fcells_append (l l' : List (ByteArray × File)) : fcells (l ++ l') = fcells l ++ fcells l' := by simp [fcells]
theorem fcells_at : ∀ (l : List (ByteArray × File)) (k : Nat) (p : ByteArray × File), l[k]? = some p → (fcells l)[k * 3]? = some (.string p.1) ∧ (fcells l)[k * 3 + 1]? = some (.string p.2.1) ∧ (fcells l)[k * 3 + 2]? = some (.int .i64 p.2.2)
  | [], _, _, h => by simp at h
  | q :: t, 0, p, h => by
    simp only [List.getElem?_cons_zero, Option.some.injEq] at h
    subst h
    exact ⟨rfl, rfl, rfl⟩
  | q :: t, k + 1, p, h => by
    have ih := fcells_at t k p (by simpa using h)
    have e : fcells (q :: t) = fcell q ++ fcells t := rfl
    have l3 : (fcell q).length = 3 := rfl
    rw [e]
    refine ⟨?_, ?_, ?_⟩
    · rw [List.getElem?_append_right (by omega), l3, show (k + 1) * 3 - 3 = k * 3 by omega]; exact ih.1
    · rw [List.getElem?_append_right (by omega), l3, show (k + 1) * 3 + 1 - 3 = k * 3 + 1 by omega]; exact ih.2.1
    · rw [List.getElem?_append_right (by omega), l3, show (k + 1) * 3 + 2 - 3 = k * 3 + 2 by omega]; exact ih.2.2
theorem fcells_take (l : List (ByteArray × File)) (k : Nat) : (fcells l).take (k * 3) = fcells (l.take k) := by
  induction l generalizing k with
  | nil => simp [fcells]
  | cons q t ih =>
    cases k with
    | zero => simp [fcells]
    | succ k =>
      have e : fcells (q :: t) = fcell q ++ fcells t := rfl
      have e2 : fcells ((q :: t).take (k + 1)) = fcell q ++ fcells (t.take k) := rfl
      rw [e, e2, List.take_append, show (fcell q).length = 3 from rfl, show (k + 1) * 3 - 3 = k * 3 by omega, ih, List.take_of_length_le (by show 3 ≤ _; omega)]
theorem fcells_drop (l : List (ByteArray × File)) (k : Nat) : (fcells l).drop (k * 3) = fcells (l.drop k) := by
  induction l generalizing k with
  | nil => simp [fcells]
  | cons q t ih =>
    cases k with
    | zero => simp
    | succ k =>
      have e : fcells (q :: t) = fcell q ++ fcells t := rfl
      have e2 : fcells ((q :: t).drop (k + 1)) = fcells (t.drop k) := rfl
      rw [e, e2, List.drop_append, show (fcell q).length = 3 from rfl, show (k + 1) * 3 - 3 = k * 3 by omega, ih, List.drop_of_length_le (by show 3 ≤ _; omega), List.nil_append]

def leftR (s : DSt) : Int := match s.fuse with | none => -1 | some n => n
/-- the reference's block -/
def rblk (v : Value) (s : DSt) : Obj := .cells #[v, .int .i64 (leftR s), .bool s.down] 78 (0, 0)
/-- a disk of the reference's: its block b, its row v -/
structure IsR (w : World) (b : Nat) (v : Value) (s : DSt) : Prop where
  blk : w.heap[b]? = some (rblk v s)
  own : w.ownsRow 0 86 3 v s.files.length (fcells s.files)
  ne : v.ownBlock ≠ some b
  ok : s.Ok

theorem IsR.keep {S : Nat → Prop} {w w' : World} {b : Nat} {v : Value} {s : DSt} (h : IsR w b v s) (hf : Fr S w w') (hb : ¬ S b) (hv : ∀ k, v.ownBlock = some k → ¬ S k) : IsR w' b v s :=
  ⟨hf.keep h.blk hb, hf.owns h.own hv, h.ne, h.ok⟩
theorem IsR.later {w w' : World} {b : Nat} {v : Value} {s : DSt} (h : IsR w b v s) (hf : Fr no w w') : IsR w' b v s := h.keep hf id (fun _ _ q => q)
theorem IsR.lt {w : World} {b : Nat} {v : Value} {s : DSt} (h : IsR w b v s) : b < w.heap.size ∧ ∀ k, v.ownBlock = some k → k < w.heap.size :=
  ⟨heap_lt h.blk, fun k hk => (h.own.lt k hk).2⟩
/-- v's form where there is a file -/
theorem IsR.form {w : World} {b : Nat} {v : Value} {s : DSt} (h : IsR w b v s) : (∃ A c, v = .slice A s.files.length c ∧ s.files.length ≤ c) := by
  rcases h.own.2 with ⟨rfl, h0⟩ | ⟨g, cap, cur, rfl, _, _, h1, _⟩
  · exact ⟨none, 0, by rw [h0], by omega⟩
  · exact ⟨_, cap, rfl, h1⟩
theorem IsR.at_ {w : World} {b : Nat} {A : Option Addr} {n c : Nat} {s : DSt} (h : IsR w b (.slice A n c) s) (k : Nat) (p : ByteArray × File) (hp : s.files[k]? = some p) :
    ∃ g, A = some ⟨g, 0, none⟩ ∧ w.cell? ⟨g, k * 3, none⟩ = some (.string p.1) ∧ w.cell? ⟨g, k * 3 + 1, none⟩ = some (.string p.2.1) ∧ w.cell? ⟨g, k * 3 + 2, none⟩ = some (.int .i64 p.2.2) ∧ (∀ j, w.frozen? ⟨g, j, none⟩ = false) ∧ g ≠ b ∧ g < w.heap.size := by
  have hlt : k < s.files.length := (List.getElem?_eq_some_iff.1 hp).1
  rcases h.own.2 with ⟨e, h0⟩ | ⟨g, cap, cur, e, _, hg, h1, _⟩
  · omega
  · injection e with e1 e2 e3
    subst e1
    obtain ⟨c0, c1, c2⟩ := fcells_at s.files k p hp
    have hc := h.own.cells (g := g) rfl
    have f0 := hc _ _ c0
    have f1 := hc _ _ c1
    have f2 := hc _ _ c2
    rw [add_at, Nat.zero_add] at f0 f1 f2
    exact ⟨g, rfl, f0, f1, f2, fun j => free_at hg j, fun q => h.ne (by rw [← q]; rfl), heap_lt hg⟩

def pl {β : Type} : List (ByteArray × β) → ByteArray → Option Nat
  | [], _ => none
  | (a, _) :: t, k => if a = k then some 0 else (pl t k).map (· + 1)
theorem pl_some {β : Type} : ∀ {l : List (ByteArray × β)} {k : ByteArray} {i : Nat}, pl l k = some i → ∃ v, l[i]? = some (k, v) ∧ get l k = some v
  | [], _, _, h => by simp [pl] at h
  | (a, b) :: t, k, i, h => by
    simp only [pl] at h
    split at h
    · rename_i e; subst e
      injection h with h; subst h
      exact ⟨b, rfl, by simp [Hop.get]⟩
    · rename_i e
      cases hp : pl t k with
      | none => simp [hp] at h
      | some j =>
        simp only [hp, Option.map_some, Option.some.injEq] at h
        subst h
        obtain ⟨v, h1, h2⟩ := pl_some hp
        exact ⟨v, by simpa using h1, by simp [Hop.get, e, h2]⟩
theorem pl_none {β : Type} : ∀ {l : List (ByteArray × β)} {k : ByteArray}, pl l k = none → get l k = none
  | [], _, _ => rfl
  | (a, b) :: t, k, h => by
    simp only [pl] at h
    split at h
    · cases h
    · rename_i e
      simp only [Hop.get, e, if_false]
      exact pl_none (by simpa using h)
/-- where it is, or -1 -/
def plI {β : Type} (l : List (ByteArray × β)) (k : ByteArray) : Int := match pl l k with | some i => i | none => -1
theorem pl_before {β : Type} : ∀ (l : List (ByteArray × β)) (k : ByteArray) (i : Nat), (∀ j q, j < i → l[j]? = some q → q.1 ≠ k) → ∀ q, l[i]? = some q → q.1 = k → pl l k = some i
  | [], _, _, _, _, h, _ => by simp at h
  | (a, b) :: t, k, 0, _, q, h, e => by
    simp only [List.getElem?_cons_zero, Option.some.injEq] at h
    subst h
    simp only at e
    simp [pl, e]
  | (a, b) :: t, k, i + 1, hn, q, h, e => by
    have h0 : a ≠ k := hn 0 (a, b) (by omega) rfl
    have := pl_before t k i (fun j q hj hq => hn (j + 1) q (by omega) (by simpa using hq)) q (by simpa using h) e
    simp [pl, h0, this]
theorem pl_never {β : Type} : ∀ (l : List (ByteArray × β)) (k : ByteArray), (∀ (j : Nat) (q : ByteArray × β), l[j]? = some q → q.1 ≠ k) → pl l k = none
  | [], _, _ => rfl
  | (a, b) :: t, k, hn => by
    have h0 : a ≠ k := hn 0 (a, b) rfl
    have := pl_never t k (fun j q hq => hn (j + 1) q (by simpa using hq))
    simp [pl, h0, this]

set_option maxHeartbeats 1000000 in
theorem find_any (b : Nat) (v : Value) (s : DSt) (name : ByteArray) (w : World) (h : IsR w b v s) :
    Calls Try.prog 75 #[.pointer (some ⟨b, 0, none⟩), .string name] w fun e w' => e = .returned (.int .i64 (plI s.files name)) ∧ w = w' := by
  obtain ⟨A, c, rfl, hc⟩ := h.form
  have h0 : w.cell? ⟨b, 0, none⟩ = some (.slice A s.files.length c) := cells_at h.blk 0 _ rfl
  have hfew := h.ok.few
  have HI := Lib.hid h
  clear h
  go_enter Try.func75, Try.ntmps75
  go_wp2
  go_loop [5] (fun i => ∃ k : Nat, k ≤ s.files.length ∧ i = .int .i64 k ∧ Hid (∀ j q, j < k → s.files[j]? = some q → q.1 ≠ name)) (fun i => s.files.length - (intOf i).toNat)
  case atStart => exact ⟨0, Nat.zero_le _, rfl, fun j q hj => by omega⟩
  case round =>
    obtain ⟨k, hk, rfl, hno⟩ := hrel
    by_cases hlt : k < s.files.length
    · obtain ⟨p, hp⟩ : ∃ p, s.files[k]? = some p := ⟨_, List.getElem?_eq_getElem hlt⟩
      obtain ⟨g, rfl, e0, e1, e2, e3, e4, e5⟩ := HI.out.at_ k p hp
      have Hp := Lib.hid hp
      have HE := Lib.hid (And.intro e3 e4)
      clear hp e3 e4
      by_cases hq : p.1 = name
      · have hb : (p.1.toList == name.toList) = true := by rw [hq]; simp
        have HR := Lib.hid (show plI s.files name = (k : Int) by unfold plI; rw [pl_before s.files name k hno.out p Hp.out hq])
        clear hq
        go_wp2
        go_ret
        exact ⟨by rw [HR.out]; rfl, rfl⟩
      · have hb : (p.1.toList == name.toList) = false := by
          rw [beq_eq_false_iff_ne, Lib.toList_data, Lib.toList_data]
          exact fun e => hq (bl_inj e)
        have HQ := Lib.hid hq
        clear hq
        go_wp2
        go_round
        case rel => exact ⟨k + 1, by omega, by go_num, fun j q hj hq2 => by
          by_cases e : j = k
          · subst e; rw [Hp.out] at hq2; injection hq2 with hq2; subst hq2; exact HQ.out
          · exact hno.out j q (by omega) hq2⟩
        case measure => simp [intOf]; omega
    · have HR := Lib.hid (show plI s.files name = -1 by
        unfold plI
        rw [pl_never s.files name (fun j q hq => hno.out j q (by have := (List.getElem?_eq_some_iff.1 hq).1; omega) hq)])
      go_wp2
      go_ret
      exact ⟨by rw [HR.out]; rfl, rfl⟩
end Go.Proofs.Ythmjjbgjbcnjmaa

namespace Go.Proofs.Ythmjjbgjbcnjmaa
open Go.RowKit Go.Hop

set_option maxHeartbeats 400000 in
set_option maxRecDepth 100000 in
theorem rchange_any (b : Nat) (v : Value) (s : DSt) (w : World) (h : w.heap[b]? = some (rblk v s)) (hs : s.fuse.getD 0 ≤ 9223372036854775807) :
    Calls Try.prog 76 #[.pointer (some ⟨b, 0, none⟩)] w fun e w' => e = .returned (.bool (chg s).1) ∧ w'.heap[b]? = some (rblk v (chg s).2) ∧ Fr (· = b) w w' := by
  obtain ⟨files, fuse, down⟩ := s
  have hc1 := cells_at h 1 _ rfl
  have hc2 := cells_at h 2 _ rfl
  have hf1 := free_at h 1
  have hf2 := free_at h 2
  have H := Lib.hid h
  clear h
  simp only [leftR] at hs hc1 hc2
  cases down with
  | true =>
    go_enter Try.func76, Try.ntmps76
    go_wp2
    go_ret
    refine ⟨by simp [chg], ?_, (Fr.refl _ _).setCell _ _ (fun _ => rfl)⟩
    have := heap_setCell_at H.out 2 (.bool true)
    simpa [rblk, chg, leftR] using this
  | false =>
  rcases fuse with _ | n
  · go_enter Try.func76, Try.ntmps76
    go_wp2
    go_ret
    exact ⟨by simp [chg], by simpa [chg] using H.out, Fr.refl _ _⟩
  · have hs2 : n ≤ 9223372036854775807 := hs
    clear hs
    simp only at hc1
    by_cases hn : n = 0
    · subst hn
      go_enter Try.func76, Try.ntmps76
      go_wp2
      go_ret
      refine ⟨by simp [chg], ?_, (Fr.refl _ _).setCell _ _ (fun _ => rfl)⟩
      have := heap_setCell_at H.out 2 (.bool true)
      simpa [rblk, chg, leftR] using this
    · have hb : ((n : Int) == 0) = false := by simp; omega
      have hn1 : 1 ≤ n := by omega
      go_enter Try.func76, Try.ntmps76
      go_wp2
      go_ret
      have hne : ¬ (some n = some 0) := by simpa using hn
      refine ⟨by simp [chg, hn], ?_, (Fr.refl _ _).setCell _ _ (fun _ => rfl)⟩
      have := heap_setCell_at H.out 1 (.int .i64 ((n : Int) - 1))
      have e : ((n : Int) - 1) = ((n - 1 : Nat) : Int) := by omega
      rw [e] at this ⊢
      simpa [rblk, chg, hn, leftR] using this

theorem sput_at_place {β : Type} (v : β) (name : ByteArray) : ∀ (l : List (ByteArray × β)) (k : Nat), (∀ j q, j < k → l[j]? = some q → bl q.1 < bl name) → (∀ q, l[k]? = some q → ¬ bl q.1 < bl name) → k ≤ l.length →
    ((∃ q, l[k]? = some q ∧ q.1 = name) → sput l name v = l.set k (name, v)) ∧ ((∀ q, l[k]? = some q → q.1 ≠ name) → sput l name v = l.take k ++ (name, v) :: l.drop k)
  | [], k, _, _, hk => by
    have : k = 0 := by simpa using hk
    subst this
    exact ⟨fun ⟨q, h, _⟩ => by simp at h, fun _ => rfl⟩
  | (a, b) :: t, 0, _, hge, _ => by
    have h0 : ¬ bl a < bl name := hge (a, b) rfl
    refine ⟨fun ⟨q, h, e⟩ => ?_, fun hn => ?_⟩
    · simp only [List.getElem?_cons_zero, Option.some.injEq] at h
      subst h
      simp only at e
      simp [sput, e]
    · have : a ≠ name := hn (a, b) rfl
      simp [sput, this, h0]
  | (a, b) :: t, k + 1, hlt, hge, hk => by
    have h0 : bl a < bl name := hlt 0 (a, b) (by omega) rfl
    have hne : a ≠ name := fun e => by rw [e] at h0; exact lt_irrefl' _ h0
    obtain ⟨i1, i2⟩ := sput_at_place v name t k (fun j q hj hq => hlt (j + 1) q (by omega) (by simpa using hq)) (fun q hq => hge q (by simpa using hq)) (by simpa using hk)
    refine ⟨fun ⟨q, h, e⟩ => ?_, fun hn => ?_⟩
    · have := i1 ⟨q, by simpa using h, e⟩
      simp [sput, hne, h0, this]
    · have := i2 (fun q hq => hn q (by simpa using hq))
      simp [sput, hne, h0, this]

/-- cells of an owned row, written -/
theorem owns_set {w : World} {base size n cap g : Nat} {e : TypeId} {xs : List Value} (h : w.ownsRow base e size (.slice (some ⟨g, 0, none⟩) n cap) n xs) (j : Nat) (u : Value) : (w.setCell ⟨g, j, none⟩ u).ownsRow base e size (.slice (some ⟨g, 0, none⟩) n cap) n (xs.set j u) := by
  refine ⟨by simpa using h.1, ?_⟩
  rcases h.2 with ⟨q, _⟩ | ⟨g', cap', cur, q, hb, hg, h1, h2, h3, h4⟩
  · cases q
  · injection q with q1 q2 q3
    injection q1 with q1
    injection q1 with q1
    subst q1 q3
    refine .inr ⟨g, cap, cur.setIfInBounds j u, rfl, hb, heap_setCell_at hg j u, h1, h2, by simpa using h3, ?_⟩
    rw [← h4, Array.toList_setIfInBounds, List.take_set]
theorem fcells_set (l : List (ByteArray × File)) (k : Nat) (p : ByteArray × File) (hk : k < l.length) : (((fcells l).set (k * 3) (.string p.1)).set (k * 3 + 1) (.string p.2.1)).set (k * 3 + 2) (.int .i64 p.2.2) = fcells (l.set k p) := by
  induction l generalizing k with
  | nil => simp at hk
  | cons q t ih =>
    have e : fcells (q :: t) = fcell q ++ fcells t := rfl
    cases k with
    | zero =>
      have e2 : fcells ((q :: t).set 0 p) = fcell p ++ fcells t := rfl
      rw [e, e2]
      rfl
    | succ k =>
      have e2 : fcells ((q :: t).set (k + 1) p) = fcell q ++ fcells (t.set k p) := rfl
      rw [e, e2, ← ih k (by simpa using hk)]
      have l3 : (fcell q).length = 3 := rfl
      rw [List.set_append_right _ _ (by omega), List.set_append_right _ _ (by omega), List.set_append_right _ _ (by omega), l3]
      congr 2
      · congr 1
        · congr 1
          omega
        · omega
      · omega
end Go.Proofs.Ythmjjbgjbcnjmaa

namespace Go.Proofs.Ythmjjbgjbcnjmaa
open Go.RowKit Go.Hop

/-- the disk's block -/
def dblk (mv : Value) (s : DSt) : Obj := .cells #[mv, .bool s.fuse.isSome, .bool s.down, .int .i64 ((s.fuse.getD 0 : Nat) : Int)] 75 (0, 0)

set_option maxHeartbeats 400000 in
set_option maxRecDepth 100000 in
theorem change_any (a : Nat) (mv : Value) (s : DSt) (w : World) (h : w.heap[a]? = some (dblk mv s)) (hs : s.fuse.getD 0 ≤ 9223372036854775807) :
    Calls Try.prog 73 #[.pointer (some ⟨a, 0, none⟩)] w fun e w' => e = .returned (.bool (chg s).1) ∧ w'.heap[a]? = some (dblk mv (chg s).2) ∧ Fr (· = a) w w' := by
  obtain ⟨files, fuse, down⟩ := s
  have hc1 := cells_at h 1 _ rfl
  have hc2 := cells_at h 2 _ rfl
  have hc3 := cells_at h 3 _ rfl
  have hf2 := free_at h 2
  have hf3 := free_at h 3
  have H := Lib.hid h
  clear h
  simp only at hs hc1 hc2 hc3
  rcases fuse with _ | n
  · cases down
    · go_enter Try.func73, Try.ntmps73
      go_wp2
      go_ret
      exact ⟨rfl, H.out, Fr.refl _ _⟩
    · go_enter Try.func73, Try.ntmps73
      go_wp2
      go_ret
      exact ⟨rfl, H.out, Fr.refl _ _⟩
  · by_cases hn : n = 0
    · subst hn
      go_enter Try.func73, Try.ntmps73
      go_wp2
      go_ret
      refine ⟨by simp [chg], ?_, (Fr.refl _ _).setCell _ _ (fun _ => rfl)⟩
      have := heap_setCell_at H.out 2 (.bool true)
      simpa [dblk, chg] using this
    · have hb : ((n : Int) == 0) = false := by simp; omega
      have hn1 : 1 ≤ n := by omega
      have hn2 : n ≤ 9223372036854775807 := hs
      cases down
      · go_enter Try.func73, Try.ntmps73
        go_wp2
        go_ret
        have hne : ¬ (some n = some 0) := by simpa using hn
        refine ⟨by simp [chg, hn], ?_, (Fr.refl _ _).setCell _ _ (fun _ => rfl)⟩
        have := heap_setCell_at H.out 3 (.int .i64 ((n : Int) - 1))
        have e : ((n : Int) - 1) = ((n - 1 : Nat) : Int) := by omega
        rw [e] at this ⊢
        simpa [dblk, chg, hn] using this
      · go_enter Try.func73, Try.ntmps73
        go_wp2
        go_ret
        exact ⟨by simp [chg], by simpa [chg] using H.out, Fr.refl _ _⟩
end Go.Proofs.Ythmjjbgjbcnjmaa

namespace Go.Proofs.Ythmjjbgjbcnjmaa
open Go.RowKit Go.Hop

def encF (f : File) : Value := .agg #[.string f.1, .int .i64 f.2]
theorem zeroF (w : World) : (zeroValue 120).run Try.prog w = .ok (.agg #[.string ⟨#[]⟩, .int .i64 0]) w := by kernel_rfl

/-- a disk of the program's: its block a, its map's block m -/
structure IsD (w : World) (a m : Nat) (s : DSt) : Prop where
  blk : w.heap[a]? = some (dblk (.map (some m)) s)
  map : ∃ al, MapIs w m (mapv encF al) ∧ Rel al s.files
  ne : a ≠ m
  ok : s.Ok

theorem get_enc {al : List (ByteArray × File)} {s : DSt} (h : Rel al s.files) (name : ByteArray) : get (mapv encF al) name = (get s.files name).map encF := by rw [get_mapv, h.eq]

theorem IsD.keep {S : Nat → Prop} {w w' : World} {a m : Nat} {s : DSt} (h : IsD w a m s) (hf : Fr S w w') (ha : ¬ S a) (hm : ¬ S m) : IsD w' a m s :=
  ⟨hf.keep h.blk ha, by obtain ⟨al, h1, h2⟩ := h.map; exact ⟨al, h1.keep hf hm, h2⟩, h.ne, h.ok⟩
theorem IsD.lt {w : World} {a m : Nat} {s : DSt} (h : IsD w a m s) : a < w.heap.size ∧ m < w.heap.size := by
  obtain ⟨al, h1, _⟩ := h.map
  exact ⟨heap_lt h.blk, h1.lt⟩


/-- Append where the file is known: f, there or not -/
def dapp1 (s : DSt) (f : File) (there : Bool) (name data : ByteArray) : Int × DSt :=
  if 262144 < f.1.size + data.size ∨ (there = false ∧ 64 ≤ s.files.length) then (2, s)
  else if (chg s).1 = false then (11, (chg s).2)
  else (0, { (chg s).2 with files := sput s.files name (f.1 ++ data, f.2) })
def Done (w : World) (a m : Nat) (r : Int × DSt) (e : Ending) (w' : World) : Prop := e = .returned (.int .i64 r.1) ∧ IsD w' a m r.2 ∧ Fr (fun k => k = a ∨ k = m) w w'

theorem ok_put {s : DSt} (h : s.Ok) (name : ByteArray) (f : File) (hf : f.1.size ≤ 262144 ∧ 0 ≤ f.2 ∧ f.2 ≤ f.1.size) (hl : (sput s.files name f).length ≤ 64) (s' : DSt) (hs : s'.files = sput s.files name f) (hsh : s'.fuse.getD 0 ≤ 9223372036854775807) (hnm : name.size ≤ 32) : s'.Ok :=
  ⟨by rw [hs]; exact h.srt.sput _ _, by rw [hs]; exact hl, fun p hp => by
    rw [hs] at hp
    rcases mem_sput hp with rfl | hp
    · exact hf
    · exact h.fit p hp, fun p hp => by
    rw [hs] at hp
    rcases mem_sput hp with rfl | hp
    · exact hnm
    · exact h.nam p hp, hsh⟩
theorem len_sput {β : Type} {l : List (ByteArray × β)} (h : Srt l) (k : ByteArray) (v : β) : (sput l k v).length = if (get l k).isSome then l.length else l.length + 1 := by
  have hr : Rel l l := ⟨h.nodup, h, fun _ => rfl⟩
  have h1 := (hr.put k v).length
  have h2 := congrArg List.length (keys_put l k v)
  rw [← h1]
  simp only [List.length_map] at h2
  rw [h2]
  split <;> simp

theorem append_end {w w1 w2 : World} {o : Obj} {a m : Nat} {s : DSt} {f : File} {there : Bool} {name data : ByteArray} {al : List (ByteArray × File)} {u : Value}
    (hr : dapp1 s f there name data = (0, { (chg s).2 with files := sput s.files name (f.1 ++ data, f.2) }))
    (hb : w1.heap[a]? = some (dblk (.map (some m)) (chg s).2)) (hf1 : Fr (fun x => x = a) (w.alloc o) w1) (hf2 : Fr (fun x => x = m) ((w1.setCell ⟨w.heap.size, 0, none⟩ u).drew) w2)
    (hm : MapIs w2 m (put (mapv encF al) name (.agg #[.string (f.1 ++ data), .int .i64 f.2]))) (hrel : Rel al s.files) (hne : a ≠ m) (hok : s.Ok) (hf : f.1.size ≤ 262144 ∧ 0 ≤ f.2 ∧ f.2 ≤ f.1.size) (hz : f.1.size + data.size ≤ 262144)
    (hl : (sput s.files name (f.1 ++ data, f.2)).length ≤ 64) (ha : a < w.heap.size) (hnm : name.size ≤ 32) : Done w a m (dapp1 s f there name data) (.returned (.int .i64 0)) w2 := by
  rw [hr]
  have hfa : Fr (fun k => k = a ∨ k = m) w w2 := by
    refine ((((Fr.refl _ w).alloc o).trans hf1 (fun _ _ q => .inl q)).trans (((Fr.refl (fun x => x = w.heap.size) w1).setCell ⟨w.heap.size, 0, none⟩ u (fun _ => rfl)).drew) (fun i hi q => ?_)).trans hf2 (fun _ _ q => .inr q)
    omega
  have hsz : (f.1 ++ data).size = f.1.size + data.size := ByteArray.size_append
  refine ⟨rfl, ⟨hf2.keep ?_ hne, ⟨put al name (f.1 ++ data, f.2), ?_, hrel.put _ _⟩, hne, ok_put hok name (f.1 ++ data, f.2) ?_ hl _ rfl hok.chg.short hnm⟩, hfa⟩
  · show (w1.setCell ⟨w.heap.size, 0, none⟩ u).heap[a]? = _
    rw [Below.heap_setCell _ _ _ _ (by show a ≠ w.heap.size; omega)]
    exact hb
  · rw [← put_mapv]; exact hm
  · rw [hsz]; omega

set_option maxHeartbeats 1000000 in
set_option maxRecDepth 100000 in
theorem append_walk (a m : Nat) (s : DSt) (name data : ByteArray) (f : File) (there : Bool) (w : World) (h : IsD w a m s) (hn : name.size ≤ 140737488351232) (hd : data.size ≤ 140737488351232) (hnm : named name = true)
    (hg : ∀ al, Rel al s.files → (get (mapv encF al) name).getD (.agg #[.string ⟨#[]⟩, .int .i64 0]) = .agg #[.string f.1, .int .i64 f.2] ∧ (get (mapv encF al) name).isSome = there)
    (hf : f.1.size ≤ 262144 ∧ 0 ≤ f.2 ∧ f.2 ≤ f.1.size) (hth : there = (get s.files name).isSome) :
    Calls Try.prog 36 #[.pointer (some ⟨a, 0, none⟩), .string name, .string data] w (Done w a m (dapp1 s f there name data)) := by
  have ha := h.lt.1
  have HI := Lib.hid h
  obtain ⟨hblk, ⟨al, hm, hrel⟩, hne, hok⟩ := h
  obtain ⟨hg1, hg2⟩ := hg al hrel
  clear hg
  have hc0 : w.cell? ⟨a, 0, none⟩ = some (.map (some m)) := cells_at hblk 0 _ rfl
  have HB := Lib.hid hblk
  have HT := Lib.hid hth
  have hf1 := hf.1
  have HF := Lib.hid hf
  have hlen := hrel.length
  have HL := Lib.hid hlen
  have hl2 : (mapv encF al).length = al.length := by simp [mapv]
  have HL2 := Lib.hid hl2
  have hsh := hok.short
  have hla : a ≠ w.heap.size := by omega
  have Hm := hm.lt
  have hcnt := fun o => (hm.keep ((Fr.refl no w).alloc o) id).count (P := Try.prog) Try.underlying73 3
  clear hblk hth hf hlen hl2
  by_cases h1 : 262144 < f.1.size + data.size
  · have Hr : Hid (dapp1 s f there name data = (2, s)) := Lib.hid (by simp [dapp1, h1])
    go_enter Try.func36, Try.ntmps36
    go_wp2_with (first | (go_at_call 72; refine (may_any _ _ (by assumption)).mono ?_; rintro e w' ⟨rfl, rfl⟩) | (at_lookup; refine wp_look rfl _ _ _ rfl hm Try.underlying73 Try.underlying9 zeroF rfl _ rfl ?_))
    go_ret
    exact ⟨by rw [Hr.out]; rfl, by rw [Hr.out]; exact HI.out.keep ((Fr.refl no _).alloc _) id id, (Fr.refl _ _).alloc _⟩
  · by_cases h2 : there = false ∧ 64 ≤ s.files.length
    · have Hr : Hid (dapp1 s f there name data = (2, s)) := Lib.hid (by simp [dapp1, h2])
      obtain ⟨rfl, h3⟩ := h2
      have h4 : 64 ≤ (mapv encF al).length := by rw [HL2.out, HL.out]; exact h3
      clear h3
      go_enter Try.func36, Try.ntmps36
      go_wp2_with (first | (go_at_call 72; refine (may_any _ _ (by assumption)).mono ?_; rintro e w' ⟨rfl, rfl⟩) | (at_lookup; refine wp_look rfl _ _ _ rfl hm Try.underlying73 Try.underlying9 zeroF rfl _ rfl ?_))
      go_ret
      exact ⟨by rw [Hr.out]; rfl, by rw [Hr.out]; exact HI.out.keep ((Fr.refl no _).alloc _) id id, (Fr.refl _ _).alloc _⟩
    · cases hcg : (chg s).1 with
      | false =>
        have Hr : Hid (dapp1 s f there name data = (11, (chg s).2)) := Lib.hid (by simp [dapp1, h1, h2, hcg])
        have h3 : there = true ∨ there = false ∧ (mapv encF al).length < 64 := by
          rw [HL2.out, HL.out]; cases there <;> simp_all
        clear h2
        rcases h3 with rfl | ⟨rfl, h3⟩
        all_goals
          go_enter Try.func36, Try.ntmps36
          go_wp2_with (first | (go_at_call 72; refine (may_any _ _ (by assumption)).mono ?_; rintro e w' ⟨rfl, rfl⟩) | (at_lookup; refine wp_look rfl _ _ _ rfl hm Try.underlying73 Try.underlying9 zeroF rfl _ rfl ?_) | (go_at_call 73; refine (change_any a _ s _ ((Below.heap_alloc w _ a ha).trans HB.out) hsh).mono ?_; rintro e w1 ⟨rfl, hb1, hf1⟩))
          go_ret
          have hI1 : IsD w1 a m (chg s).2 := ⟨hb1, ⟨al, hm.keep (((Fr.refl (· = a) w).alloc _).trans hf1 (fun _ _ q => q)) (fun q => hne q.symm), by rw [chg_files]; exact hrel⟩, hne, hok.chg⟩
          exact ⟨by rw [Hr.out]; rfl, by rw [Hr.out]; exact hI1, ((Fr.refl _ _).alloc _).trans hf1 (fun _ _ q => .inl q)⟩
      | true =>
        have h3 : there = true ∨ there = false ∧ (mapv encF al).length < 64 := by
          rw [HL2.out, HL.out]; cases there <;> simp_all
        have Hr : Hid (dapp1 s f there name data = (0, { (chg s).2 with files := sput s.files name (f.1 ++ data, f.2) })) := Lib.hid (by simp [dapp1, h1, h2, hcg])
        have Hl64 : Hid ((sput s.files name (f.1 ++ data, f.2)).length ≤ 64) := Lib.hid (by
          rw [len_sput hok.srt, ← HT.out]
          have := hok.few
          cases there <;> simp_all
          omega)
        clear h2
        rcases h3 with rfl | ⟨rfl, h3⟩
        all_goals
          go_enter Try.func36, Try.ntmps36
          go_wp2_with (first | (go_at_call 72; refine (may_any _ _ (by assumption)).mono ?_; rintro e w' ⟨rfl, rfl⟩) | (at_lookup; refine wp_look rfl _ _ _ rfl hm Try.underlying73 Try.underlying9 zeroF rfl _ rfl ?_) | fail)
          refine (change_any a _ s _ ((Below.heap_alloc w _ a ha).trans HB.out) hsh).mono ?_
          rintro e w1 ⟨rfl, hb1, hf1⟩
          have hm1 := hm.keep (((Fr.refl (· = a) w).alloc (.cells #[.string f.1, .int .i64 f.2] 120)).trans hf1 (fun _ _ q => q)) (fun q => hne q.symm)
          have hk := hf1.keep (heap_alloc_at w _) (fun q => hla q.symm)
          have e0 : w1.cell? ⟨a, 0, none⟩ = some (.map (some m)) := cells_at hb1 0 _ rfl
          have e1 : w1.cell? ⟨w.heap.size, 0, none⟩ = some (.string f.1) := cells_at hk 0 _ rfl
          have e2 : w1.cell? ⟨w.heap.size, 1, none⟩ = some (.int .i64 f.2) := cells_at hk 1 _ rfl
          have e3 := free_at hk 0
          have HB1 := Lib.hid hb1
          have HK := Lib.hid hk
          clear hb1 hk
          go_wp2
          refine wp_region_still_tail 6 (by kernel_rfl) (by kernel_rfl) ?_
          simp only [List.take_succ_cons, List.take_zero, List.drop_succ_cons, List.drop_zero, World.drew_eq]
          repeat still_step
          refine wpStill_nil ?_
          have hm2 : MapIs ((w1.setCell ⟨w.heap.size, 0, none⟩ (.string (f.1 ++ data))).drew) m (mapv encF al) := hm1.keep (((Fr.refl (· = w.heap.size) w1).setCell _ _ (fun _ => rfl)).drew) (by omega)
          refine wp_store rfl _ _ _ rfl hm2 Try.underlying73 Try.underlying9 rfl _ rfl _ rfl ?_
          intro w2 hm3 hf2
          go_wp2
          go_ret
          exact append_end Hr.out HB1.out hf1 hf2 hm3 hrel hne hok HF.out (by omega) Hl64.out ha (named_size hnm)

theorem get_dflt {al : List (ByteArray × File)} {s : DSt} (h : Rel al s.files) (name : ByteArray) :
    (get (mapv encF al) name).getD (.agg #[.string ⟨#[]⟩, .int .i64 0]) = .agg #[.string (fileAt s name).1, .int .i64 (fileAt s name).2] ∧ (get (mapv encF al) name).isSome = (get s.files name).isSome := by
  rw [get_enc h name]
  unfold fileAt
  cases get s.files name <;> exact ⟨rfl, rfl⟩

set_option maxHeartbeats 400000 in
set_option maxRecDepth 100000 in
theorem append_any (a m : Nat) (s : DSt) (name data : ByteArray) (w : World) (h : IsD w a m s) (hn : name.size ≤ 140737488351232) (hd : data.size ≤ 140737488351232) :
    Calls Try.prog 36 #[.pointer (some ⟨a, 0, none⟩), .string name, .string data] w (Done w a m (dappend s name data)) := by
  cases hnm : named name with
  | false =>
    have HR := Lib.hid (show dappend s name data = (10, s) by simp [dappend, hnm])
    go_enter Try.func36, Try.ntmps36
    go_wp2_with (go_at_call 72; refine (may_any _ _ (by assumption)).mono ?_; rintro e w' ⟨rfl, rfl⟩)
    go_ret
    exact ⟨by rw [HR.out]; rfl, by rw [HR.out]; exact h, Fr.refl _ _⟩
  | true =>
    have e : dappend s name data = dapp1 s (fileAt s name) (get s.files name).isSome name data := by
      unfold dappend dapp1
      rw [hnm]
      cases get s.files name <;> simp
    rw [e]
    exact append_walk a m s name data (fileAt s name) _ w h hn hd hnm (fun al hr => get_dflt hr name) (h.ok.file name) rfl

end Go.Proofs.Ythmjjbgjbcnjmaa

namespace Go.Proofs.Ythmjjbgjbcnjmaa
open Go.RowKit Go.Hop

theorem known_def (s : DSt) (name : ByteArray) (h : named name = true) : dknown s name = if get s.files name = none then 5 else 0 := by simp [dknown, h]
def knownF (s : DSt) (name : ByteArray) : File := if dknown s name = 0 then fileAt s name else (⟨#[]⟩, 0)

set_option maxHeartbeats 1000000 in
set_option maxRecDepth 100000 in
theorem known_any (a m : Nat) (s : DSt) (name : ByteArray) (w : World) (h : IsD w a m s) (hn : name.size ≤ 140737488351232) :
    Calls Try.prog 81 #[.pointer (some ⟨a, 0, none⟩), .string name] w fun e w' => e = .returned (.tuple #[.agg #[.string (knownF s name).1, .int .i64 (knownF s name).2], .int .i64 (dknown s name)]) ∧ Fr no w w' := by
  have ha := h.lt.1
  have HI := Lib.hid h
  obtain ⟨hblk, ⟨al, hm, hrel⟩, hne, hok⟩ := h
  obtain ⟨hg1, hg2⟩ := get_dflt hrel name
  have hc0 : w.cell? ⟨a, 0, none⟩ = some (.map (some m)) := cells_at hblk 0 _ rfl
  have hla : a ≠ w.heap.size := by omega
  clear hblk
  cases hnm : named name with
  | false =>
    have HR := Lib.hid (show dknown s name = 10 by simp [dknown, hnm])
    have HK := Lib.hid (show knownF s name = (⟨#[]⟩, 0) by unfold knownF; rw [HR.out]; rfl)
    clear hg1 hg2
    go_enter Try.func81, Try.ntmps81
    go_wp2_with (go_at_call 72; refine (may_any _ _ (by assumption)).mono ?_; rintro e w' ⟨rfl, rfl⟩)
    exact bodyPost_ret (v := .tuple #[.agg #[.string ⟨#[]⟩, .int .i64 0], .int .i64 10]) (by simp [results, Try.results81, go_sem]) rfl ⟨by rw [HR.out, HK.out], (((Fr.refl _ _).alloc _))⟩
  | true =>
    cases hgs : (get s.files name).isSome with
    | false =>
      have HR := Lib.hid (show dknown s name = 5 by rw [known_def s name hnm]; cases hq : get s.files name <;> simp_all)
      have HK := Lib.hid (show knownF s name = (⟨#[]⟩, 0) by unfold knownF; rw [HR.out]; rfl)
      have hm' := hm.keep ((Fr.refl no w).alloc (.cells #[.string ⟨#[]⟩, .int .i64 0] 120)) id
      go_enter Try.func81, Try.ntmps81
      go_wp2_with (first | (go_at_call 72; refine (may_any _ _ (by assumption)).mono ?_; rintro e w' ⟨rfl, rfl⟩) | (at_lookup; refine wp_look rfl _ _ _ rfl hm' Try.underlying73 Try.underlying9 zeroF rfl _ rfl ?_))
      exact bodyPost_ret (v := .tuple #[.agg #[.string ⟨#[]⟩, .int .i64 0], .int .i64 5]) (by simp [results, Try.results81, go_sem]) rfl ⟨by rw [HR.out, HK.out], ((Fr.refl _ _).alloc _).alloc _⟩
    | true =>
      have HR := Lib.hid (show dknown s name = 0 by rw [known_def s name hnm]; cases hq : get s.files name <;> simp_all)
      have HK := Lib.hid (show knownF s name = fileAt s name by unfold knownF; rw [HR.out]; rfl)
      have hm' := hm.keep ((Fr.refl no w).alloc (.cells #[.string ⟨#[]⟩, .int .i64 0] 120)) id
      go_enter Try.func81, Try.ntmps81
      go_wp2_with (first | (go_at_call 72; refine (may_any _ _ (by assumption)).mono ?_; rintro e w' ⟨rfl, rfl⟩) | (at_lookup; refine wp_look rfl _ _ _ rfl hm' Try.underlying73 Try.underlying9 zeroF rfl _ rfl ?_))
      exact bodyPost_ret (v := .tuple #[.agg #[.string (fileAt s name).1, .int .i64 (fileAt s name).2], .int .i64 0]) (by simp [results, Try.results81, go_sem]) rfl ⟨by rw [HR.out, HK.out], ((Fr.refl _ _).alloc _).alloc _⟩

theorem known_cases (s : DSt) (name : ByteArray) : dknown s name = 10 ∨ dknown s name = 5 ∨ dknown s name = 0 := by
  unfold dknown; split
  · exact .inl rfl
  · split
    · exact .inr (.inl rfl)
    · exact .inr (.inr rfl)

/-- a disk behind blocks that were laid since -/
theorem IsD.later {w w' : World} {a m : Nat} {s : DSt} (h : IsD w a m s) (hf : Fr no w w') : IsD w' a m s := h.keep hf id id

theorem cells2 {w : World} {b t : Nat} {u v : Value} (h : w.heap[b]? = some (.cells #[u, v] t (0, 0))) :
    w.cell? ⟨b, 0, none⟩ = some u ∧ w.cell? ⟨b, 1, none⟩ = some v ∧ w.frozen? ⟨b, 0, none⟩ = false ∧ w.frozen? ⟨b, 1, none⟩ = false ∧ b < w.heap.size :=
  ⟨cells_at h 0 _ rfl, cells_at h 1 _ rfl, free_at h 0, free_at h 1, heap_lt h⟩
theorem result2 {w1 : World} {S : Nat → Prop} {w : World} {n : Nat} (hn : w.heap.size ≤ n) (h : Fr S w w1) (u v : Value) (o : Obj) : Fr S w (((w1.setCell ⟨n, 0, none⟩ u).setCell ⟨n, 1, none⟩ v).alloc o) :=
  ((h.setCell _ _ (fun q => absurd q (by show ¬ n < _; omega))).setCell _ _ (fun q => absurd q (by show ¬ n < _; omega))).alloc o
theorem IsD.result2 {w1 : World} {a m n : Nat} {s : DSt} (h : IsD w1 a m s) (ha : a ≠ n) (hm : m ≠ n) (u v : Value) (o : Obj) : IsD (((w1.setCell ⟨n, 0, none⟩ u).setCell ⟨n, 1, none⟩ v).alloc o) a m s :=
  h.keep ((((Fr.refl (fun x => x = n) w1).setCell ⟨n, 0, none⟩ u (fun _ => rfl)).setCell ⟨n, 1, none⟩ v (fun _ => rfl)).alloc o) ha hm
theorem result2' {w1 : World} {S : Nat → Prop} {w : World} {n : Nat} (hn : w.heap.size ≤ n) (h : Fr S w w1) (u v : Value) : Fr S w ((w1.setCell ⟨n, 0, none⟩ u).setCell ⟨n, 1, none⟩ v) :=
  ((h.setCell _ _ (fun q => absurd q (by show ¬ n < _; omega))).setCell _ _ (fun q => absurd q (by show ¬ n < _; omega)))
theorem IsD.result2' {w1 : World} {a m n : Nat} {s : DSt} (h : IsD w1 a m s) (ha : a ≠ n) (hm : m ≠ n) (u v : Value) : IsD ((w1.setCell ⟨n, 0, none⟩ u).setCell ⟨n, 1, none⟩ v) a m s :=
  h.keep (((Fr.refl (fun x => x = n) w1).setCell ⟨n, 0, none⟩ u (fun _ => rfl)).setCell ⟨n, 1, none⟩ v (fun _ => rfl)) ha hm
theorem IsD.changed {w w2 : World} {a m : Nat} {s : DSt} (h : IsD w a m s) (hf : Fr (fun x => x = a) w w2) (hb : w2.heap[a]? = some (dblk (.map (some m)) (chg s).2)) : IsD w2 a m (chg s).2 := by
  obtain ⟨al, h1, h2⟩ := h.map
  exact ⟨hb, ⟨al, h1.keep hf (fun q => h.ne q.symm), by rw [chg_files]; exact h2⟩, h.ne, h.ok.chg⟩

set_option maxHeartbeats 1000000 in
set_option maxRecDepth 100000 in
theorem altered_any (a m : Nat) (s : DSt) (name : ByteArray) (w : World) (h : IsD w a m s) (hn : name.size ≤ 140737488351232) :
    Calls Try.prog 78 #[.pointer (some ⟨a, 0, none⟩), .string name] w fun e w' => e = .returned (.tuple #[.agg #[.string (knownF s name).1, .int .i64 (knownF s name).2], .int .i64 (dalter s name).1]) ∧ IsD w' a m (dalter s name).2 ∧ Fr (fun k => k = a ∨ k = m) w w' := by
  have hlt := h.lt
  have hsh := h.ok.short
  have hna : a ≠ w.heap.size := by omega
  have hnm : m ≠ w.heap.size := by omega
  generalize hkf : knownF s name = kf
  obtain ⟨kf1, kf2⟩ := kf
  have HKF := Lib.hid hkf
  have HI := Lib.hid h
  clear hkf h
  rcases known_cases s name with hk | hk | hk
  · have HR := Lib.hid (show dalter s name = (10, s) by simp [dalter, hk])
    go_enter Try.func78, Try.ntmps78
    go_wp2_with (first | (go_at_call 81; refine (known_any a m s name _ (HI.out.later ((Fr.refl _ _).alloc _)) hn).mono ?_; rintro e w1 ⟨rfl, hf⟩; rw [HKF.out]; obtain ⟨e1, e2, e3, e4, e5⟩ := cells2 (hf.keep (heap_alloc_at w _) id)) | fail)
    have hfr : Fr no w w1 := ((Fr.refl _ _).alloc _).trans hf (fun _ _ q => q)
    exact bodyPost_ret (v := .tuple #[.agg #[.string kf1, .int .i64 kf2], .int .i64 10]) (by simp [results, Try.results78, go_sem, e1, e2, e5]) rfl ⟨by rw [HR.out], by rw [HR.out]; exact HI.out.later (result2 (Nat.le_refl _) hfr _ _ _), (result2 (Nat.le_refl _) hfr _ _ _).mono (fun _ _ q => q.elim)⟩
  · have HR := Lib.hid (show dalter s name = (5, s) by simp [dalter, hk])
    go_enter Try.func78, Try.ntmps78
    go_wp2_with (first | (go_at_call 81; refine (known_any a m s name _ (HI.out.later ((Fr.refl _ _).alloc _)) hn).mono ?_; rintro e w1 ⟨rfl, hf⟩; rw [HKF.out]; obtain ⟨e1, e2, e3, e4, e5⟩ := cells2 (hf.keep (heap_alloc_at w _) id)) | fail)
    have hfr : Fr no w w1 := ((Fr.refl _ _).alloc _).trans hf (fun _ _ q => q)
    exact bodyPost_ret (v := .tuple #[.agg #[.string kf1, .int .i64 kf2], .int .i64 5]) (by simp [results, Try.results78, go_sem, e1, e2, e5]) rfl ⟨by rw [HR.out], by rw [HR.out]; exact HI.out.later (result2 (Nat.le_refl _) hfr _ _ _), (result2 (Nat.le_refl _) hfr _ _ _).mono (fun _ _ q => q.elim)⟩
  · cases hcg : (chg s).1 with
    | false =>
      have HR := Lib.hid (show dalter s name = (11, (chg s).2) by simp [dalter, hk, hcg])
      go_enter Try.func78, Try.ntmps78
      go_wp2_with (first | (go_at_call 81; refine (known_any a m s name _ (HI.out.later ((Fr.refl _ _).alloc _)) hn).mono ?_; rintro e w1 ⟨rfl, hf⟩; rw [HKF.out]) | fail)
      have hfr : Fr no w w1 := ((Fr.refl _ _).alloc _).trans hf (fun _ _ q => q)
      have HI1 := Lib.hid ((HI.out.later hfr).later ((Fr.refl no w1).alloc (.cells #[.string kf1, .int .i64 kf2] 120)))
      have hsz := hf.size
      simp only [World.size_alloc] at hsz
      refine (change_any a _ s _ HI1.out.blk hsh).mono ?_
      rintro e w2 ⟨rfl, hb2, hf2⟩
      obtain ⟨e1, e2, e3, e4, e5⟩ := cells2 (hf2.keep ((Below.heap_alloc _ _ _ (heap_lt (hf.keep (heap_alloc_at w _) id))).trans (hf.keep (heap_alloc_at w _) id)) (fun q => hna q.symm))
      obtain ⟨f1, f2, f3, f4, f5⟩ := cells2 (hf2.keep (heap_alloc_at w1 _) (by omega))
      have HB2 := Lib.hid hb2
      clear hb2
      go_wp2
      have hf3 : Fr (fun k => k = a ∨ k = m) w w2 := ((hfr.mono (fun _ _ q => q.elim)).alloc _).trans hf2 (fun _ _ q => .inl q)
      exact bodyPost_ret (v := .tuple #[.agg #[.string kf1, .int .i64 kf2], .int .i64 11]) (by simp [results, Try.results78, go_sem, e1, e2]) rfl ⟨by rw [HR.out], by rw [HR.out]; exact (HI1.out.changed hf2 HB2.out).result2' hna hnm _ _, result2' (Nat.le_refl _) hf3 _ _⟩
    | true =>
      have HR := Lib.hid (show dalter s name = (0, (chg s).2) by simp [dalter, hk, hcg])
      go_enter Try.func78, Try.ntmps78
      go_wp2_with (first | (go_at_call 81; refine (known_any a m s name _ (HI.out.later ((Fr.refl _ _).alloc _)) hn).mono ?_; rintro e w1 ⟨rfl, hf⟩; rw [HKF.out]) | fail)
      have hfr : Fr no w w1 := ((Fr.refl _ _).alloc _).trans hf (fun _ _ q => q)
      have HI1 := Lib.hid ((HI.out.later hfr).later ((Fr.refl no w1).alloc (.cells #[.string kf1, .int .i64 kf2] 120)))
      have hsz := hf.size
      simp only [World.size_alloc] at hsz
      refine (change_any a _ s _ HI1.out.blk hsh).mono ?_
      rintro e w2 ⟨rfl, hb2, hf2⟩
      obtain ⟨e1, e2, e3, e4, e5⟩ := cells2 (hf2.keep ((Below.heap_alloc _ _ _ (heap_lt (hf.keep (heap_alloc_at w _) id))).trans (hf.keep (heap_alloc_at w _) id)) (fun q => hna q.symm))
      obtain ⟨f1, f2, f3, f4, f5⟩ := cells2 (hf2.keep (heap_alloc_at w1 _) (by omega))
      have HB2 := Lib.hid hb2
      clear hb2
      go_wp2
      have hf3 : Fr (fun k => k = a ∨ k = m) w w2 := ((hfr.mono (fun _ _ q => q.elim)).alloc _).trans hf2 (fun _ _ q => .inl q)
      exact bodyPost_ret (v := .tuple #[.agg #[.string kf1, .int .i64 kf2], .int .i64 0]) (by simp [results, Try.results78, go_sem, e1, e2]) rfl ⟨by rw [HR.out], by rw [HR.out]; exact (HI1.out.changed hf2 HB2.out).result2' hna hnm _ _, result2' (Nat.le_refl _) hf3 _ _⟩
end Go.Proofs.Ythmjjbgjbcnjmaa
