/-
  Frames (what a call may turn), and maps keyed by strings, entry by entry: words for the walks of this seat. No program's number stands here.
-/
import Derived.WalkKit
import Derived.WalkSpells
import Derived.WalkLawsBesides
import Derived.Maps.OwnSet
import Derived.Deep.Draws
import Derived.Lib.Hide
namespace Go.Hop
open Go.RowKit Go.MapKept

/-! ### 1. Frames -/
/-- w' is w but for the blocks of S, and new blocks. -/
structure Fr (S : Nat → Prop) (w w' : World) : Prop where
  os : w'.os = w.os
  tape : w'.tape = w.tape
  output : w'.output = w.output
  size : w.heap.size ≤ w'.heap.size
  block : ∀ k, k < w.heap.size → ¬ S k → w'.heap[k]? = w.heap[k]?

/-- no old block -/
def no : Nat → Prop := fun _ => False

theorem Fr.refl (S : Nat → Prop) (w : World) : Fr S w w := ⟨rfl, rfl, rfl, Nat.le_refl _, fun _ _ _ => rfl⟩
theorem Fr.trans {S T : Nat → Prop} {a b c : World} (h : Fr S a b) (k : Fr T b c) (hT : ∀ i, i < a.heap.size → T i → S i) : Fr S a c :=
  ⟨k.os.trans h.os, k.tape.trans h.tape, k.output.trans h.output, Nat.le_trans h.size k.size,
   fun i hi hn => (k.block i (Nat.lt_of_lt_of_le hi h.size) (fun ht => hn (hT i hi ht))).trans (h.block i hi hn)⟩
theorem Fr.mono {S T : Nat → Prop} {a b : World} (h : Fr S a b) (hT : ∀ i, i < a.heap.size → S i → T i) : Fr T a b :=
  ⟨h.os, h.tape, h.output, h.size, fun i hi hn => h.block i hi (fun hs => hn (hT i hi hs))⟩
theorem Fr.alloc {S : Nat → Prop} {a w : World} (h : Fr S a w) (o : Obj) : Fr S a (w.alloc o) :=
  h.trans (T := no) ⟨rfl, rfl, rfl, by simp, fun k hk _ => Below.heap_alloc _ _ _ hk⟩ (fun _ _ ht => ht.elim)
theorem Fr.drew {S : Nat → Prop} {a w : World} (h : Fr S a w) : Fr S a w.drew := ⟨h.os, h.tape, h.output, h.size, h.block⟩
theorem Fr.drewN {S : Nat → Prop} {a w : World} (h : Fr S a w) (n : Nat) : Fr S a (w.drewN n) := ⟨h.os, h.tape, h.output, h.size, h.block⟩
theorem Fr.setCell {S : Nat → Prop} {a w : World} (h : Fr S a w) (p : Addr) (u : Value) (hp : p.block < a.heap.size → S p.block) : Fr S a (w.setCell p u) :=
  h.trans (T := fun k => k = p.block) ⟨rfl, rfl, rfl, by simp [World.setCell], fun k _ hn => Below.heap_setCell _ _ _ _ hn⟩ (fun i hi ht => by subst ht; exact hp hi)
theorem Fr.below {w w' : World} (h : Below w.heap.size w w') (S : Nat → Prop) : Fr S w w' := ⟨h.os, h.tape, h.output, h.size, fun k hk _ => h.block k hk⟩
theorem Fr.grown {w w' : World} {row : Option Nat} (h : w.grownBy w' row) : Fr (fun k => some k = row) w w' := ⟨h.os, h.tape, h.output, h.size, fun k hk hn => h.block k hk hn⟩
theorem Fr.toBelow {S : Nat → Prop} {w w' : World} {B : Nat} (h : Fr S w w') (hB : B ≤ w.heap.size) (hS : ∀ k, k < B → ¬ S k) : Below B w w' :=
  ⟨h.os, h.tape, h.output, h.size, fun k hk => h.block k (Nat.lt_of_lt_of_le hk hB) (hS k hk)⟩
theorem Fr.none_ {w w' : World} (h : Fr no w w') : Below w.heap.size w w' := h.toBelow (Nat.le_refl _) (fun _ _ h => h)
theorem Fr.keep {S : Nat → Prop} {w w' : World} (h : Fr S w w') {k : Nat} {o : Obj} (hk : w.heap[k]? = some o) (hn : ¬ S k) : w'.heap[k]? = some o :=
  (h.block k (Array.getElem?_eq_some_iff.1 hk).1 hn).trans hk
theorem Fr.cell {S : Nat → Prop} {w w' : World} (h : Fr S w w') {p : Addr} {v : Value} (hc : w.cell? p = some v) (hn : ¬ S p.block) : w'.cell? p = some v :=
  (World.cell?_of_block (w := w) (h.block _ (World.block_lt_of_cell? w p hc) hn)).trans hc
theorem Fr.owns {S : Nat → Prop} {w w' : World} (h : Fr S w w') {base : Nat} {e : TypeId} {size n : Nat} {v : Value} {xs : List Value} (ho : w.ownsRow base e size v n xs) (hn : ∀ k, v.ownBlock = some k → ¬ S k) : w'.ownsRow base e size v n xs := by
  refine ⟨ho.1, ?_⟩
  rcases ho.2 with h' | ⟨g, cap, cur, rfl, hb, hg, r⟩
  · exact .inl h'
  · exact .inr ⟨g, cap, cur, rfl, hb, h.keep hg (hn g (by simp [Value.ownBlock])), r⟩

/-- a block of cells read at once -/
theorem cells_at {w : World} {b : Nat} {cs : Array Value} {e : TypeId} (h : w.heap[b]? = some (.cells cs e (0, 0))) (i : Nat) (v : Value) (hv : cs[i]? = some v) : w.cell? ⟨b, i, none⟩ = some v := by
  simp [World.cell?, h, hv]
theorem free_at {w : World} {b : Nat} {cs : Array Value} {e : TypeId} (h : w.heap[b]? = some (.cells cs e (0, 0))) (i : Nat) : w.frozen? ⟨b, i, none⟩ = false := by
  simp [World.frozen?, h]
theorem heap_setCell_at {w : World} {b : Nat} {cs : Array Value} {e : TypeId} (h : w.heap[b]? = some (.cells cs e (0, 0))) (i : Nat) (v : Value) : (w.setCell ⟨b, i, none⟩ v).heap[b]? = some (.cells (cs.setIfInBounds i v) e (0, 0)) := by
  simp [World.setCell, Array.getElem?_modify, h]
theorem heap_alloc_at (w : World) (o : Obj) : (w.alloc o).heap[w.heap.size]? = some o := (heap_alloc w o).1
theorem heap_lt {w : World} {b : Nat} {o : Obj} (h : w.heap[b]? = some o) : b < w.heap.size := (Array.getElem?_eq_some_iff.1 h).1

/-! ### 2. Association lists -/
section
variable {β : Type}
def get : List (ByteArray × β) → ByteArray → Option β
  | [], _ => none
  | (a, b) :: t, k => if a = k then some b else get t k
def put : List (ByteArray × β) → ByteArray → β → List (ByteArray × β)
  | [], k, v => [(k, v)]
  | (a, b) :: t, k, v => if a = k then (k, v) :: t else (a, b) :: put t k v
def del : List (ByteArray × β) → ByteArray → List (ByteArray × β)
  | [], _ => []
  | (a, b) :: t, k => if a = k then t else (a, b) :: del t k
end
def mapv {β γ : Type} (f : β → γ) (l : List (ByteArray × β)) : List (ByteArray × γ) := l.map (fun p => (p.1, f p.2))
theorem get_mapv {β γ : Type} (f : β → γ) (l : List (ByteArray × β)) (k : ByteArray) : get (mapv f l) k = (get l k).map f := by
  induction l with
  | nil => rfl
  | cons p t ih => obtain ⟨a, b⟩ := p; simp only [mapv, List.map_cons, get] at ih ⊢; split <;> simp_all
theorem put_mapv {β γ : Type} (f : β → γ) (l : List (ByteArray × β)) (k : ByteArray) (v : β) : put (mapv f l) k (f v) = mapv f (put l k v) := by
  induction l with
  | nil => rfl
  | cons p t ih => obtain ⟨a, b⟩ := p; simp only [mapv, List.map_cons, put] at ih ⊢; split <;> simp_all
theorem del_mapv {β γ : Type} (f : β → γ) (l : List (ByteArray × β)) (k : ByteArray) : del (mapv f l) k = mapv f (del l k) := by
  induction l with
  | nil => rfl
  | cons p t ih => obtain ⟨a, b⟩ := p; simp only [mapv, List.map_cons, del] at ih ⊢; split <;> simp_all

/-! ### 3. A map keyed by strings, entry by entry -/
def encE (p : ByteArray × Value) : Value × Value := (.string p.1, p.2)
def MapIs (w : World) (m : Nat) (l : List (ByteArray × Value)) : Prop :=
  ∃ es clock, w.heap[m]? = some (.map es clock) ∧ Stamped es clock ∧ es.toList.map (fun e => (e.key, e.val)) = l.map encE

theorem MapIs.lt {w : World} {m : Nat} {l : List (ByteArray × Value)} (h : MapIs w m l) : m < w.heap.size := by
  obtain ⟨es, clock, hb, _⟩ := h; exact heap_lt hb
theorem MapIs.keep {S : Nat → Prop} {w w' : World} {m : Nat} {l : List (ByteArray × Value)} (h : MapIs w m l) (hf : Fr S w w') (hn : ¬ S m) : MapIs w' m l := by
  obtain ⟨es, clock, hb, r⟩ := h; exact ⟨es, clock, hf.keep hb hn, r⟩
theorem MapIs.made (w : World) : MapIs (w.alloc (.map #[] 0)) w.heap.size [] := ⟨#[], 0, heap_alloc_at w _, stamped_empty 0, rfl⟩

theorem map_eraseIdx' {α β : Type} (f : α → β) : ∀ (l : List α) (i : Nat), (l.eraseIdx i).map f = (l.map f).eraseIdx i
  | [], _ => rfl
  | _ :: _, 0 => rfl
  | a :: l, i + 1 => by simp [map_eraseIdx' f l i]
theorem isKey_string (s : ByteArray) : IsKey .string (.string s) := by simp [IsKey]
theorem keys_string {es : List MapEntry} {l : List (ByteArray × Value)} (h : es.map (fun e => (e.key, e.val)) = l.map encE) : ∀ x ∈ es, IsKey .string x.key := by
  intro x hx
  have : (x.key, x.val) ∈ l.map encE := by rw [← h]; exact List.mem_map.2 ⟨x, hx, rfl⟩
  obtain ⟨p, _, hp⟩ := List.mem_map.1 this
  have : x.key = .string p.1 := (congrArg Prod.fst hp).symm
  rw [this]; exact isKey_string _

theorem find_from (s : ByteArray) : ∀ (es : List MapEntry) (l : List (ByteArray × Value)) (i : Nat), es.map (fun e => (e.key, e.val)) = l.map encE →
    (get l s = none ∧ Instr.findNow .string (.string s) es i = some none ∧ put l s = (fun v => l ++ [(s, v)]) ∧ del l s = l ∧ ∀ x ∈ es, x.key ≠ .string s) ∨
    (∃ j v e, get l s = some v ∧ Instr.findNow .string (.string s) es i = some (some (i + j, v)) ∧ es[j]? = some e ∧ e.key = .string s ∧ put l s = (fun v => l.set j (s, v)) ∧ del l s = l.eraseIdx j)
  | [], [], i, _ => .inl ⟨rfl, rfl, by funext v; rfl, rfl, by simp⟩
  | [], _ :: _, _, h => by simp at h
  | _ :: _, [], _, h => by simp at h
  | e :: es, (a, b) :: l, i, h => by
    simp only [List.map_cons, List.cons.injEq] at h
    obtain ⟨h0, h1⟩ := h
    have hk : e.key = .string a := (congrArg Prod.fst h0)
    have hv : e.val = b := (congrArg Prod.snd h0)
    by_cases q : a = s
    · subst q
      refine .inr ⟨0, b, e, by simp [get], ?_, rfl, hk, by funext v; simp [put], by simp [del]⟩
      have : (a == a) = true := (bytes_beq a a).2 rfl
      simp [Instr.findNow, Instr.sameNow, hk, hv, this]
    · have hne : (s == a) = false := by
        cases hb : (s == a) with
        | false => rfl
        | true => exact absurd ((bytes_beq s a).1 hb).symm q
      rcases find_from s es l (i + 1) h1 with ⟨g1, g2, g3, g4, g5⟩ | ⟨j, v, e', g1, g2, g3, g4, g5, g6⟩
      · refine .inl ⟨by simp [get, q, g1], by simp [Instr.findNow, Instr.sameNow, hk, hne, g2], by funext v; simp [put, q, congrFun g3 v], by simp [del, q, g4], ?_⟩
        intro x hx
        cases hx with
        | head => rw [hk]; intro hh; exact q (by injection hh)
        | tail _ hx => exact g5 x hx
      · exact .inr ⟨j + 1, v, e', by simp [get, q, g1], by simp [Instr.findNow, Instr.sameNow, hk, hne, g2]; omega, by simpa using g3, g4, by funext v; simp [put, q, congrFun g5 v], by simp [del, q, g6]⟩

section
variable {P : Program} {w : World} {t k e : TypeId} {m : Nat} {l : List (ByteArray × Value)}

theorem MapIs.look (h : MapIs w m l) (ht : P.underlying t = some (.map k e)) (hk : P.underlying k = some .string) {z : Value} (hz : ∀ w, (zeroValue e).run P w = .ok z w) (s : ByteArray) (c : Bool) :
    (Instr.lookup t (.map (some m)) (.string s) c).run P w = .ok (if c then .tuple #[(get l s).getD z, .bool (get l s).isSome] else (get l s).getD z) w := by
  obtain ⟨es, clock, hb, hs, he⟩ := h
  rcases find_from s es.toList l 0 he with ⟨g1, g2, _⟩ | ⟨j, v, e', g1, g2, _⟩
  · simp [Instr.lookup, run_underlying ht, MapKept.run_getObj_map hb, run_checkKey hk (isKey_string s), run_findKey hk g2, Result.andThen, hz, g1]
  · simp [Instr.lookup, run_underlying ht, MapKept.run_getObj_map hb, run_checkKey hk (isKey_string s), run_findKey hk g2, Result.andThen, g1]

theorem MapIs.store (h : MapIs w m l) (ht : P.underlying t = some (.map k e)) (hk : P.underlying k = some .string) (s : ByteArray) (v : Value) :
    ∃ w', (Instr.mapUpdate t (.map (some m)) (.string s) v).run P w = .ok () w' ∧ MapIs w' m (put l s v) ∧ Fr (· = m) w w' := by
  obtain ⟨es, clock, hb, hs, he⟩ := h
  have hfr : ∀ o, Fr (· = m) w { w with heap := w.heap.setIfInBounds m o } := fun o => ⟨rfl, rfl, rfl, by simp, fun i _ hn => (heap_set hb).2 i hn⟩
  have hks := keys_string he
  rcases find_from s es.toList l 0 he with ⟨g1, g2, g3, g4, g5⟩ | ⟨j, u, e', g1, g2, g3, g4, g5, g6⟩
  · refine ⟨_, by simp [Instr.mapUpdate, run_underlying ht, MapKept.run_getObj_map hb, run_checkKey hk (isKey_string s), run_findKey hk g2, MapKept.run_setObj_map _ hb, Result.andThen]; rfl, ⟨_, _, (heap_set hb).1, stamped_push hs g5, ?_⟩, hfr _⟩
    rw [g3]; simp [he, encE]
  · have hj : es[j]? = some e' := by simpa using g3
    have hkey : ∀ e2, es[j]? = some e2 → ({ e2 with key := .string s, val := v } : MapEntry).key = e2.key := fun e2 he' => by rw [hj] at he'; cases he'; exact g4.symm
    have hrun : (Instr.mapUpdate t (.map (some m)) (.string s) v).run P w = .ok () { w with heap := w.heap.setIfInBounds m (.map (es.modify j (fun e2 => { e2 with key := .string s, val := v })) clock) } := by
      simp [Instr.mapUpdate, run_underlying ht, MapKept.run_getObj_map hb, run_checkKey hk (isKey_string s), run_findKey hk g2, hj, g4, run_keyThatStays (isKey_string s), MapKept.run_setObj_map _ hb, Result.andThen]
    refine ⟨_, hrun, ⟨_, _, (heap_set hb).1, stamped_modify hs _ _ (fun _ _ => rfl) (fun e2 _ he' => hkey e2 he'), ?_⟩, hfr _⟩
    rw [g5]
    simp only [Array.toList_modify]
    apply List.ext_getElem?
    intro i
    have hi := congrArg (fun x => x[i]?) he
    simp only [List.getElem?_map] at hi
    have hjl : j < l.length := by
      have h1 : j < es.toList.length := by simpa using (Array.getElem?_eq_some_iff.1 hj).1
      have h2 := congrArg List.length he
      simp only [List.length_map] at h2
      omega
    simp only [List.getElem?_map, List.getElem?_modify, List.getElem?_set]
    by_cases q : j = i
    · subst q
      simp only [if_true, g3, hjl]
      simp [encE]
    · simp only [q, if_false]
      simpa using hi

theorem MapIs.drop (h : MapIs w m l) (ht : P.underlying t = some (.map k e)) (hk : P.underlying k = some .string) (s : ByteArray) (ty : TypeId) :
    ∃ w', (Builtin.delete_ #[t, k] ty #[.map (some m), .string s]).run P w = .ok (.tuple #[]) w' ∧ MapIs w' m (del l s) ∧ Fr (· = m) w w' := by
  obtain ⟨es, clock, hb, hs, he⟩ := h
  have hfr : ∀ o, Fr (· = m) w { w with heap := w.heap.setIfInBounds m o } := fun o => ⟨rfl, rfl, rfl, by simp, fun i _ hn => (heap_set hb).2 i hn⟩
  rcases find_from s es.toList l 0 he with ⟨g1, g2, g3, g4, g5⟩ | ⟨j, u, e', g1, g2, g3, g4, g5, g6⟩
  · exact ⟨_, by simp [Builtin.delete_, run_underlying ht, MapKept.run_getObj_map hb, run_checkKey hk (isKey_string s), run_findKey hk g2, MapKept.run_setObj_map _ hb, Result.andThen], ⟨_, _, (heap_set hb).1, hs, by rw [g4]; exact he⟩, hfr _⟩
  · refine ⟨_, by simp [Builtin.delete_, run_underlying ht, MapKept.run_getObj_map hb, run_checkKey hk (isKey_string s), run_findKey hk g2, MapKept.run_setObj_map _ hb, Result.andThen]; rfl, ⟨_, _, (heap_set hb).1, stamped_erase hs _, ?_⟩, hfr _⟩
    rw [g6]
    have hj : j < es.size := (Array.getElem?_eq_some_iff.1 (show es[j]? = some e' by simpa using g3)).1
    have e1 : (es.eraseIdxIfInBounds j).toList = es.toList.eraseIdx j := by
      unfold Array.eraseIdxIfInBounds
      rw [dif_pos hj]
      simp
    rw [e1, map_eraseIdx', he, map_eraseIdx']

theorem MapIs.count (h : MapIs w m l) (ht : P.underlying t = some (.map k e)) (ty : TypeId) :
    (Builtin.len_ #[t] ty #[.map (some m)]).run P w = .ok (.int .i64 l.length) w := by
  obtain ⟨es, clock, hb, hs, he⟩ := h
  have : es.size = l.length := by have := congrArg List.length he; simpa using this
  simp [Builtin.len_, run_underlying ht, MapKept.run_getObj_map hb, Result.andThen, goInt, this]
end

/-! ### 4. The same at the operation, for the walk -/
section
variable {P : Program} {w : World} {ops : Array Oper} {rest : List Oper} {o : Oper} {a : Act} {Q : Exit → Act → World → Prop} {t k e : TypeId} {m : Nat} {l : List (ByteArray × Value)}

theorem wp_look (hg : o.guard = none) (x y : Operand) (c : Bool) (hop : o.op = Op.lookup t x y c) (h : MapIs w m l) (ht : P.underlying t = some (.map k e)) (hk : P.underlying k = some .string) {z : Value} (hz : ∀ w, (zeroValue e).run P w = .ok z w)
    (hx : a.eval x = .map (some m)) (s : ByteArray) (hy : a.eval y = .string s)
    (hK : wpList P ops Q rest (a.put o.dst (if c then .tuple #[(get l s).getD z, .bool (get l s).isSome] else (get l s).getD z)) w) : wpList P ops Q (o :: rest) a w := by
  refine wpList_plain hg fun K' hK' => ?_
  have hr := h.look ht hk hz s c
  unfold Oper.wp
  cases c
  · simp only [Bool.false_eq_true, if_false] at hr hK
    simp [execOp, hop, hx, hy, hr, Result.andThen]
    exact hK' _ _ hK
  · simp only [if_true] at hr hK
    simp [execOp, hop, hx, hy, hr, Result.andThen]
    exact hK' _ _ hK

theorem wp_store (hg : o.guard = none) (x y z : Operand) (hop : o.op = Op.mapUpdate t x y z) (h : MapIs w m l) (ht : P.underlying t = some (.map k e)) (hk : P.underlying k = some .string)
    (hx : a.eval x = .map (some m)) (s : ByteArray) (hy : a.eval y = .string s) (v : Value) (hv : a.eval z = v)
    (hK : ∀ w', MapIs w' m (put l s v) → Fr (· = m) w w' → wpList P ops Q rest (a.put o.dst undef) w') : wpList P ops Q (o :: rest) a w := by
  refine wpList_plain hg fun K' hK' => ?_
  obtain ⟨w', hr, h1, h2⟩ := h.store ht hk s v
  unfold Oper.wp
  simp [execOp, hop, hx, hy, hv, hr, Result.andThen]
  exact hK' _ _ (hK w' h1 h2)

theorem wp_drop (hg : o.guard = none) (x y : Operand) (hop : o.op = Op.call { callee := Callee.builtin Builtin.delete, args := #[x, y], argTypes := #[t, k] }) (h : MapIs w m l) (ht : P.underlying t = some (.map k e)) (hk : P.underlying k = some .string)
    (hx : a.eval x = .map (some m)) (s : ByteArray) (hy : a.eval y = .string s)
    (hK : ∀ w', MapIs w' m (del l s) → Fr (· = m) w w' → wpList P ops Q rest (a.put o.dst (.tuple #[])) w') : wpList P ops Q (o :: rest) a w := by
  refine wpList_plain hg fun K' hK' => ?_
  obtain ⟨w', hr, h1, h2⟩ := h.drop ht hk s o.type
  unfold Oper.wp
  simp [execOp, hop, resolve, invoke, builtin, hx, hy, hr, Result.andThen]
  exact hK' _ _ (hK w' h1 h2)

theorem wp_count (hg : o.guard = none) (x : Operand) (hop : o.op = Op.call { callee := Callee.builtin Builtin.len, args := #[x], argTypes := #[t] }) (h : MapIs w m l) (ht : P.underlying t = some (.map k e))
    (hx : a.eval x = .map (some m)) (hK : wpList P ops Q rest (a.put o.dst (.int .i64 l.length)) w) : wpList P ops Q (o :: rest) a w := by
  refine wpList_plain hg fun K' hK' => ?_
  have hr := h.count (P := P) ht o.type
  unfold Oper.wp
  simp [execOp, hop, resolve, invoke, builtin, hx, hr, Result.andThen]
  exact hK' _ _ hK
end
end Go.Hop
