/-
  Worlds and string-keyed maps: which blocks a step leaves as they were ('Kept'); a map block that holds a list of keys and values ('SMap'), and what lookup, store, delete and len do to it.
-/
import Derived.WalkKit
import Derived.MapKept
import Derived.ChangeMaps4
import Derived.Lib.Hide
import Derived.StillTailTactics
import Derived.Deep.QuietTactic
import Derived.BigQuiet
set_option linter.unusedVariables false
set_option linter.unusedSimpArgs false
namespace Go.Proofs.Ytogfllhbgkeinaa.Base
open Go.RowKit Go.MapKept
open Go.ChangeMaps (setBlock)

/-! ### 1. Blocks that stay -/
/-- all blocks of w but those of S are in w' as they were -/
structure Kept (S : Nat → Prop) (w w' : World) : Prop where
  os : w'.os = w.os
  tape : w'.tape = w.tape
  output : w'.output = w.output
  size : w.heap.size ≤ w'.heap.size
  block : ∀ k, k < w.heap.size → ¬ S k → w'.heap[k]? = w.heap[k]?

theorem Kept.refl (S : Nat → Prop) (w : World) : Kept S w w := ⟨rfl, rfl, rfl, Nat.le_refl _, fun _ _ _ => rfl⟩
theorem Kept.mono {S T : Nat → Prop} {w w' : World} (h : Kept S w w') (hs : ∀ k, k < w.heap.size → S k → T k) : Kept T w w' :=
  ⟨h.os, h.tape, h.output, h.size, fun k hk hn => h.block k hk fun s => hn (hs k hk s)⟩
theorem Kept.trans {S T : Nat → Prop} {a b c : World} (h : Kept S a b) (k : Kept T b c) (hs : ∀ i, i < a.heap.size → T i → S i) : Kept S a c :=
  ⟨k.os.trans h.os, k.tape.trans h.tape, k.output.trans h.output, Nat.le_trans h.size k.size,
    fun i hi hn => (k.block i (Nat.lt_of_lt_of_le hi h.size) fun s => hn (hs i hi s)).trans (h.block i hi hn)⟩
/-- the second step's blocks are the first's or new -/
theorem Kept.then {S T : Nat → Prop} {a b c : World} (h : Kept S a b) (k : Kept T b c) (hs : ∀ i, T i → S i ∨ a.heap.size ≤ i) : Kept S a c :=
  h.trans k fun i hi t => (hs i t).resolve_right (by omega)
theorem Kept.alloc (S : Nat → Prop) (w : World) (o : Obj) : Kept S w (w.alloc o) :=
  ⟨rfl, rfl, rfl, by simp, fun k hk _ => Below.heap_alloc w o k hk⟩
theorem Kept.drew (S : Nat → Prop) (w : World) : Kept S w w.drew := ⟨rfl, rfl, rfl, Nat.le_refl _, fun _ _ _ => rfl⟩
theorem Kept.setCell {S : Nat → Prop} (w : World) (p : Addr) (u : Value) (hp : S p.block) : Kept S w (w.setCell p u) :=
  ⟨rfl, rfl, rfl, by simp, fun k _ hn => Below.heap_setCell w p u k fun e => hn (e ▸ hp)⟩
theorem Kept.setBlock {S : Nat → Prop} (w : World) (b : Nat) (o : Obj) (hb : S b) : Kept S w (setBlock w b o) :=
  ⟨rfl, rfl, rfl, by simp [ChangeMaps.setBlock], fun k _ hn => by
    have : b ≠ k := fun e => hn (e ▸ hb)
    simp [ChangeMaps.setBlock, this]⟩
theorem Kept.of_grown {w w' : World} {row : Option Nat} (h : w.grownBy w' row) : Kept (fun k => some k = row) w w' :=
  ⟨h.os, h.tape, h.output, h.size, fun k hk hn => h.block k hk hn⟩
theorem Kept.of_below {B : Nat} {w w' : World} (h : Below B w w') : Kept (fun k => B ≤ k) w w' :=
  ⟨h.os, h.tape, h.output, h.size, fun k hk hn => h.block k (by omega)⟩
theorem Kept.below {S : Nat → Prop} {B : Nat} {w w' : World} (h : Kept S w w') (hB : B ≤ w.heap.size) (hs : ∀ k, k < B → ¬ S k) : Below B w w' :=
  ⟨h.os, h.tape, h.output, h.size, fun k hk => h.block k (by omega) (hs k hk)⟩
theorem Kept.grownBy {w w' : World} {row : Option Nat} (h : Kept (fun k => some k = row) w w') : w.grownBy w' row :=
  ⟨h.os, h.tape, h.output, h.size, fun k hk hn => h.block k hk hn⟩
theorem Kept.cell {S : Nat → Prop} {w w' : World} (h : Kept S w w') {a : Addr} {v : Value} (hc : w.cell? a = some v) (hn : ¬ S a.block) : w'.cell? a = some v :=
  (World.cell?_of_block (h.block a.block (World.block_lt_of_cell? w a hc) hn)).trans hc
theorem Kept.at {S : Nat → Prop} {w w' : World} (h : Kept S w w') {b : Nat} {o : Obj} (hb : w.heap[b]? = some o) (hn : ¬ S b) : w'.heap[b]? = some o :=
  (h.block b (Array.getElem?_eq_some_iff.1 hb).1 hn).trans hb
theorem lt_of_at {w : World} {b : Nat} {o : Obj} (hb : w.heap[b]? = some o) : b < w.heap.size := (Array.getElem?_eq_some_iff.1 hb).1

/-- the same world but for how often an order was drawn -/
def dn (w : World) (k : Nat) : World := { w with drawn := k }
section
variable (w : World) (k j : Nat)
@[simp] theorem dn_heap : (dn w k).heap = w.heap := rfl
@[simp] theorem dn_tape : (dn w k).tape = w.tape := rfl
@[simp] theorem dn_os : (dn w k).os = w.os := rfl
@[simp] theorem dn_output : (dn w k).output = w.output := rfl
@[simp] theorem dn_drawn : (dn w k).drawn = k := rfl
@[simp] theorem dn_cell (a : Addr) : (dn w k).cell? a = w.cell? a := rfl
@[simp] theorem dn_frozen (a : Addr) : (dn w k).frozen? a = w.frozen? a := rfl
@[simp] theorem dn_shape (r : Nat) : (dn w k).shape? r = w.shape? r := rfl
@[simp] theorem dn_setCell (a : Addr) (v : Value) : (dn w k).setCell a v = dn (w.setCell a v) k := rfl
@[simp] theorem dn_alloc (o : Obj) : (dn w k).alloc o = dn (w.alloc o) k := rfl
@[simp] theorem dn_block (b : Nat) (o : Obj) : setBlock (dn w k) b o = dn (setBlock w b o) k := rfl
@[simp] theorem dn_drew : (dn w k).drew = dn w (k + 1) := rfl
@[simp] theorem dn_dn : dn (dn w k) j = dn w j := rfl
theorem dn_self : dn w w.drawn = w := rfl
end
theorem Kept.dn {S : Nat → Prop} {w w' : World} (h : Kept S w w') (k j : Nat) : Kept S (dn w k) (dn w' j) := ⟨h.os, h.tape, h.output, h.size, h.block⟩
theorem Kept.undn {S : Nat → Prop} {w w' : World} {k j : Nat} (h : Kept S (Base.dn w k) (Base.dn w' j)) : Kept S w w' := ⟨h.os, h.tape, h.output, h.size, h.block⟩

/-! ### 2. Cells of a block that is known whole -/
theorem cell_of {w : World} {b : Nat} {c : Array Value} {t : TypeId} {fr : Nat × Nat} (hb : w.heap[b]? = some (.cells c t fr)) (i : Nat) : w.cell? ⟨b, i, none⟩ = c[i]? := by
  simp [World.cell?, hb]
theorem free_of {w : World} {b : Nat} {c : Array Value} {t : TypeId} (hb : w.heap[b]? = some (.cells c t (0, 0))) (i : Nat) : w.frozen? ⟨b, i, none⟩ = false := by
  simp [World.frozen?, hb]
theorem heap_setCell_same {w : World} {b : Nat} {c : Array Value} {t : TypeId} {fr : Nat × Nat} (hb : w.heap[b]? = some (.cells c t fr)) (i : Nat) (v : Value) :
    (w.setCell ⟨b, i, none⟩ v).heap[b]? = some (.cells (c.setIfInBounds i v) t fr) := by
  simp only [World.setCell]
  rw [Array.getElem?_modify]
  simp [hb]
theorem heap_setCell_other {w : World} {b k i : Nat} (v : Value) (h : k ≠ b) : (w.setCell ⟨b, i, none⟩ v).heap[k]? = w.heap[k]? := Below.heap_setCell w ⟨b, i, none⟩ v k h
theorem heap_alloc_old {w : World} {k : Nat} (o : Obj) (h : k < w.heap.size) : (w.alloc o).heap[k]? = w.heap[k]? := Below.heap_alloc w o k h
theorem heap_alloc_new' (w : World) (o : Obj) : (w.alloc o).heap[w.heap.size]? = some o := by
  show (w.heap.push o)[w.heap.size]? = some o
  simp
theorem heap_setBlock_same {w : World} {b : Nat} {o o' : Obj} (hb : w.heap[b]? = some o') : (setBlock w b o).heap[b]? = some o := by
  have := lt_of_at hb
  simp [setBlock, this]
theorem heap_setBlock_other {w : World} {b k : Nat} (o : Obj) (h : k ≠ b) : (setBlock w b o).heap[k]? = w.heap[k]? := by
  have : b ≠ k := fun e => h e.symm
  simp [setBlock, this]

/-! ### 3. Lists of keys and values -/
abbrev KV := List (ByteArray × Value)
def get : KV → ByteArray → Option Value
  | [], _ => none
  | p :: l, k => if p.1 = k then some p.2 else get l k
def put : KV → ByteArray → Value → KV
  | [], k, v => [(k, v)]
  | p :: l, k, v => if p.1 = k then (k, v) :: l else p :: put l k v
def del (l : KV) (k : ByteArray) : KV := l.filter fun p => !decide (p.1 = k)
theorem get_none {l : KV} {k : ByteArray} : get l k = none ↔ ∀ p ∈ l, p.1 ≠ k := by
  induction l with
  | nil => simp [get]
  | cons p l ih =>
    unfold get
    by_cases h : p.1 = k
    · simp [h]
    · simp [h, ih]
theorem get_mem {l : KV} {k : ByteArray} {v : Value} (h : get l k = some v) : (k, v) ∈ l := by
  induction l with
  | nil => simp [get] at h
  | cons p l ih =>
    unfold get at h
    by_cases e : p.1 = k
    · rw [if_pos e] at h
      obtain ⟨a, b⟩ := p
      simp_all
    · rw [if_neg e] at h
      exact List.mem_cons_of_mem _ (ih h)
theorem get_of_mem {l : KV} {k : ByteArray} {v : Value} (hn : (l.map (·.1)).Nodup) (h : (k, v) ∈ l) : get l k = some v := by
  induction l with
  | nil => cases h
  | cons p l ih =>
    simp only [List.map_cons, List.nodup_cons] at hn
    unfold get
    rcases List.mem_cons.1 h with e | e
    · subst e; simp
    · have : p.1 ≠ k := fun e' => hn.1 (List.mem_map.2 ⟨_, e, e'.symm⟩)
      rw [if_neg this]; exact ih hn.2 e
theorem put_new {l : KV} {k : ByteArray} {v : Value} (h : get l k = none) : put l k v = l ++ [(k, v)] := by
  induction l with
  | nil => rfl
  | cons p l ih =>
    unfold get at h
    by_cases e : p.1 = k
    · simp [e] at h
    · rw [if_neg e] at h
      simp [put, e, ih h]
theorem get_put (l : KV) (k j : ByteArray) (v : Value) : get (put l k v) j = if k = j then some v else get l j := by
  induction l with
  | nil => by_cases h : k = j <;> simp [put, get, h]
  | cons p l ih =>
    by_cases e : p.1 = k
    · simp only [put, e, if_true, get]
      by_cases h : k = j
      · simp [h]
      · simp [h]
    · simp only [put, e, if_false, get]
      by_cases h : p.1 = j
      · have : k ≠ j := fun q => e (h.trans q.symm)
        simp [h, this]
      · simp [h, ih]
theorem get_del (l : KV) (k j : ByteArray) : get (del l k) j = if k = j then none else get l j := by
  induction l with
  | nil => simp [del, get]
  | cons p l ih =>
    unfold del at ih ⊢
    by_cases e : p.1 = k
    · simp only [List.filter_cons, e, decide_true, Bool.not_true, Bool.false_eq_true, if_false, ih]
      by_cases h : k = j
      · simp [h]
      · simp [h, get, e]
    · simp only [List.filter_cons, e, decide_false, Bool.not_false, if_true, get, ih]
      by_cases h : p.1 = j
      · have : k ≠ j := fun q => e (h.trans q.symm)
        simp [h, this]
      · simp [h]
theorem put_keys {l : KV} {k : ByteArray} {v : Value} : ∀ p ∈ put l k v, p ∈ l ∨ p = (k, v) := by
  induction l with
  | nil => simp [put]
  | cons q l ih =>
    unfold put
    intro p hp
    by_cases e : q.1 = k
    · rw [if_pos e] at hp
      rcases List.mem_cons.1 hp with h | h
      · exact .inr h
      · exact .inl (List.mem_cons_of_mem _ h)
    · rw [if_neg e] at hp
      rcases List.mem_cons.1 hp with h | h
      · exact .inl (h ▸ List.mem_cons_self)
      · rcases ih p h with h | h
        · exact .inl (List.mem_cons_of_mem _ h)
        · exact .inr h

theorem nodup_of_map {α β : Type} {f : α → β} {l : List α} (h : (l.map f).Nodup) : l.Nodup := by
  unfold List.Nodup at h ⊢
  exact (List.pairwise_map.1 h).imp fun h e => h (congrArg f e)

/-! ### 4. A map block -/
def row (p : ByteArray × Value) : Value × Value := (.string p.1, p.2)
def rowOf (e : MapEntry) : Value × Value := (e.key, e.val)
/-- block r is a map that holds just l, in the order in which its keys came -/
def SMap (w : World) (r : Nat) (l : KV) : Prop :=
  ∃ es clock, w.heap[r]? = some (.map es clock) ∧ Stamped es clock ∧ es.toList.map rowOf = l.map row
theorem SMap.lt {w : World} {r : Nat} {l : KV} (h : SMap w r l) : r < w.heap.size := by obtain ⟨es, c, hb, _⟩ := h; exact lt_of_at hb
theorem SMap.kept {S : Nat → Prop} {w w' : World} {r : Nat} {l : KV} (h : SMap w r l) (k : Kept S w w') (hn : ¬ S r) : SMap w' r l := by
  obtain ⟨es, c, hb, hs, hl⟩ := h
  exact ⟨es, c, k.at hb hn, hs, hl⟩
theorem rows_key {es : List MapEntry} {l : KV} (h : es.map rowOf = l.map row) : es.map (·.key) = l.map fun p => Value.string p.1 := by
  have := congrArg (List.map Prod.fst) h
  simpa [Function.comp_def, rowOf, row] using this
theorem SMap.nodup {w : World} {r : Nat} {l : KV} (h : SMap w r l) : (l.map (·.1)).Nodup := by
  obtain ⟨es, c, hb, ⟨_, _, hs⟩, hl⟩ := h
  rw [rows_key hl, show (l.map fun p => Value.string p.1) = (l.map (·.1)).map Value.string from by simp] at hs
  exact nodup_of_map hs
theorem SMap.isKey {es : Array MapEntry} {l : KV} (hl : es.toList.map rowOf = l.map row) : ∀ x ∈ es.toList, IsKey .string x.key := by
  intro x hx
  have : x.key ∈ es.toList.map (·.key) := List.mem_map.2 ⟨x, hx, rfl⟩
  rw [rows_key hl] at this
  obtain ⟨p, _, e⟩ := List.mem_map.1 this
  rw [← e]; trivial
/-- where a key stands -/
theorem find_at {es : List MapEntry} {l : KV} (hl : es.map rowOf = l.map row) (k : ByteArray) :
    (get l k = none ∧ ∀ x ∈ es, x.key ≠ .string k) ∨ ∃ v, get l k = some v ∧ ∀ (j : Nat) (e : MapEntry), es[j]? = some e → e.key = .string k → (es.map (·.key)).Nodup → e.val = v := by
  cases hg : get l k with
  | none =>
    refine .inl ⟨rfl, fun x hx e => ?_⟩
    have : x.key ∈ es.map (·.key) := List.mem_map.2 ⟨x, hx, rfl⟩
    rw [rows_key hl, e] at this
    obtain ⟨p, hp, e'⟩ := List.mem_map.1 this
    injection e' with e'
    exact get_none.1 hg p hp e'
  | some v =>
    refine .inr ⟨v, rfl, fun j e hj hk hn => ?_⟩
    have hm : rowOf e ∈ l.map row := hl ▸ List.mem_map.2 ⟨e, List.mem_of_getElem? hj, rfl⟩
    obtain ⟨p, hp, hpe⟩ := List.mem_map.1 hm
    simp only [row, rowOf, Prod.mk.injEq] at hpe
    rw [hk] at hpe
    injection hpe.1 with h1
    have hnd : (l.map (·.1)).Nodup := by
      rw [rows_key hl, show (l.map fun p => Value.string p.1) = (l.map (·.1)).map Value.string from by simp] at hn
      exact nodup_of_map hn
    have := get_of_mem (l := l) (k := k) (v := p.2) hnd (by rw [← h1]; exact hp)
    rw [hg] at this
    injection this with this
    rw [this, ← hpe.2]
section
variable {P : Program} {w : World} {mty kt et : TypeId} {r : Nat} {l : KV} {ty : TypeId}
theorem SMap.look (h : SMap w r l) (hm : P.underlying mty = some (.map kt et)) (hk : P.underlying kt = some .string) {z : Value} (hz : (zeroValue et).run P w = .ok z w) (k : ByteArray) :
    (Instr.lookup mty (.map (some r)) (.string k) false).run P w = .ok ((get l k).getD z) w := by
  obtain ⟨es, c, hb, ⟨_, _, hs⟩, hl⟩ := h
  rcases findNow_spec (d := .string) (k := .string k) trivial es.toList 0 (SMap.isKey hl) with ⟨h1, h2⟩ | ⟨j, e, h1, h2, h3⟩
  · rcases find_at hl k with ⟨g, _⟩ | ⟨v, g, _⟩
    · simp [Instr.lookup, run_underlying hm, MapKept.run_getObj_map hb, run_checkKey (d := .string) (k := .string k) hk trivial, run_findKey hk h1, hz, Result.andThen, g]
    · exfalso
      have := get_mem g
      have hm : row (k, v) ∈ es.toList.map rowOf := hl ▸ List.mem_map.2 ⟨_, this, rfl⟩
      obtain ⟨x, hx, e⟩ := List.mem_map.1 hm
      simp only [row, rowOf, Prod.mk.injEq] at e
      exact h2 x hx e.1
  · rcases find_at hl k with ⟨_, g⟩ | ⟨v, g, g2⟩
    · exact absurd h3 (g e (List.mem_of_getElem? h2))
    · have := g2 j e h2 h3 hs
      simp [Instr.lookup, run_underlying hm, MapKept.run_getObj_map hb, run_checkKey (d := .string) (k := .string k) hk trivial, run_findKey hk h1, Result.andThen, g, this]
theorem SMap.look_ok (h : SMap w r l) (hm : P.underlying mty = some (.map kt et)) (hk : P.underlying kt = some .string) {z : Value} (hz : (zeroValue et).run P w = .ok z w) (k : ByteArray) :
    (Instr.lookup mty (.map (some r)) (.string k) true).run P w = .ok (.tuple #[(get l k).getD z, .bool (get l k).isSome]) w := by
  obtain ⟨es, c, hb, ⟨_, _, hs⟩, hl⟩ := h
  rcases findNow_spec (d := .string) (k := .string k) trivial es.toList 0 (SMap.isKey hl) with ⟨h1, h2⟩ | ⟨j, e, h1, h2, h3⟩
  · rcases find_at hl k with ⟨g, _⟩ | ⟨v, g, _⟩
    · simp [Instr.lookup, run_underlying hm, MapKept.run_getObj_map hb, run_checkKey (d := .string) (k := .string k) hk trivial, run_findKey hk h1, hz, Result.andThen, g]
    · exfalso
      have := get_mem g
      have hm : row (k, v) ∈ es.toList.map rowOf := hl ▸ List.mem_map.2 ⟨_, this, rfl⟩
      obtain ⟨x, hx, e⟩ := List.mem_map.1 hm
      simp only [row, rowOf, Prod.mk.injEq] at e
      exact h2 x hx e.1
  · rcases find_at hl k with ⟨_, g⟩ | ⟨v, g, g2⟩
    · exact absurd h3 (g e (List.mem_of_getElem? h2))
    · have := g2 j e h2 h3 hs
      simp [Instr.lookup, run_underlying hm, MapKept.run_getObj_map hb, run_checkKey (d := .string) (k := .string k) hk trivial, run_findKey hk h1, Result.andThen, g, this]
theorem SMap.len (h : SMap w r l) (hm : P.underlying mty = some (.map kt et)) : (Builtin.len_ #[mty] ty #[.map (some r)]).run P w = .ok (.int .i64 l.length) w := by
  obtain ⟨es, c, hb, _, hl⟩ := h
  have e : es.size = l.length := by have := congrArg List.length hl; simpa using this
  simp [Builtin.len_, run_underlying hm, MapKept.run_getObj_map hb, Result.andThen, e, goInt]
/-- what is put back into the block -/
theorem SMap.update (h : SMap w r l) (hm : P.underlying mty = some (.map kt et)) (hk : P.underlying kt = some .string) (k : ByteArray) (v : Value) :
    ∃ o, (∀ j, (Instr.mapUpdate mty (.map (some r)) (.string k) v).run P (dn w j) = .ok () (dn (setBlock w r o) j)) ∧ SMap (setBlock w r o) r (put l k v) := by
  obtain ⟨es, c, hb, hs, hl⟩ := h
  rcases findNow_spec (d := .string) (k := .string k) trivial es.toList 0 (SMap.isKey hl) with ⟨h1, h2⟩ | ⟨j, e, h1, h2, h3⟩
  · refine ⟨.map (es.push { key := .string k, val := v, born := c }) (c + 1), ?_, _, _, heap_setBlock_same hb, stamped_push hs h2, ?_⟩
    · intro q
      have hb' : (dn w q).heap[r]? = some (.map es c) := hb
      simp [Instr.mapUpdate, run_underlying hm, MapKept.run_getObj_map hb', run_checkKey (d := .string) (k := .string k) hk trivial, run_findKey hk h1, MapKept.run_setObj_map _ hb', Result.andThen]
      rfl
    · have g : get l k = none := by
        rcases find_at hl k with ⟨g, _⟩ | ⟨v', g, _⟩
        · exact g
        · exfalso
          have := get_mem g
          have hm : row (k, v') ∈ es.toList.map rowOf := hl ▸ List.mem_map.2 ⟨_, this, rfl⟩
          obtain ⟨x, hx, e⟩ := List.mem_map.1 hm
          simp only [row, rowOf, Prod.mk.injEq] at e
          exact h2 x hx e.1
      simp [put_new g, hl, row, rowOf]
  · have hj : es[j]? = some e := by simpa using h2
    refine ⟨.map (es.modify j fun e => { e with key := .string k, val := v }) c, ?_, _, _, heap_setBlock_same hb, stamped_modify hs _ _ (fun _ _ => rfl) (fun e' _ he' => ?_), ?_⟩
    · intro q
      have hb' : (dn w q).heap[r]? = some (.map es c) := hb
      simp [Instr.mapUpdate, run_underlying hm, MapKept.run_getObj_map hb', run_checkKey (d := .string) (k := .string k) hk trivial, run_findKey hk h1, hj, h3, run_keyThatStays (d := .string) (k := .string k) trivial, MapKept.run_setObj_map _ hb', Result.andThen]
      rfl
    · rw [hj] at he'; cases he'; exact h3.symm
    · have hn : (l.map (·.1)).Nodup := SMap.nodup ⟨es, c, hb, hs, hl⟩
      have key : ∀ (es : List MapEntry) (l : KV) (j : Nat) (e : MapEntry), es.map rowOf = l.map row → (l.map (·.1)).Nodup → es[j]? = some e → e.key = .string k →
          (es.modify j fun e => { e with key := .string k, val := v }).map rowOf = (put l k v).map row := by
        intro es
        induction es with
        | nil => intro l j e _ _ hj; simp at hj
        | cons x es ih =>
          intro l j e hl hn hj hk
          cases l with
          | nil => simp at hl
          | cons p l =>
            simp only [List.map_cons, List.cons.injEq] at hl
            simp only [List.map_cons, List.nodup_cons] at hn
            cases j with
            | zero =>
              simp only [List.getElem?_cons_zero, Option.some.injEq] at hj
              subst hj
              have : p.1 = k := by
                have := hl.1; simp only [rowOf, row, Prod.mk.injEq] at this
                rw [hk] at this; injection this.1 with h; exact h.symm
              simp [put, this, hl.2, row, rowOf]
            | succ j =>
              simp only [List.getElem?_cons_succ] at hj
              have hne : p.1 ≠ k := by
                intro e'
                have hm : rowOf e ∈ l.map row := hl.2 ▸ List.mem_map.2 ⟨e, List.mem_of_getElem? hj, rfl⟩
                obtain ⟨q, hq, hqe⟩ := List.mem_map.1 hm
                simp only [row, rowOf, Prod.mk.injEq] at hqe
                rw [hk] at hqe
                injection hqe.1 with h1
                exact hn.1 (List.mem_map.2 ⟨q, hq, h1.trans e'.symm⟩)
              simp only [List.modify_succ_cons, List.map_cons, put, hne, if_false, List.cons.injEq]
              exact ⟨hl.1, ih l j e hl.2 hn.2 hj hk⟩
      have := key es.toList l j e hl hn (by simpa using hj) h3
      rw [← this]
      simp
theorem SMap.delete (h : SMap w r l) (hm : P.underlying mty = some (.map kt et)) (hk : P.underlying kt = some .string) (k : ByteArray) :
    ∃ o, (∀ j, (Builtin.delete_ #[mty, kt] ty #[.map (some r), .string k]).run P (dn w j) = .ok (.tuple #[]) (dn (setBlock w r o) j)) ∧ SMap (setBlock w r o) r (del l k) := by
  obtain ⟨es, c, hb, hs, hl⟩ := h
  have hn : (l.map (·.1)).Nodup := SMap.nodup ⟨es, c, hb, hs, hl⟩
  rcases findNow_spec (d := .string) (k := .string k) trivial es.toList 0 (SMap.isKey hl) with ⟨h1, h2⟩ | ⟨j, e, h1, h2, h3⟩
  · refine ⟨.map es c, ?_, _, _, heap_setBlock_same hb, hs, ?_⟩
    · intro q
      have hb' : (dn w q).heap[r]? = some (.map es c) := hb
      simp [Builtin.delete_, run_underlying hm, MapKept.run_getObj_map hb', run_checkKey (d := .string) (k := .string k) hk trivial, run_findKey hk h1, MapKept.run_setObj_map _ hb', Result.andThen]
      rfl
    · rw [hl]
      have : del l k = l := by
        unfold del
        rw [List.filter_eq_self]
        intro p hp
        have hm : row p ∈ es.toList.map rowOf := hl ▸ List.mem_map.2 ⟨p, hp, rfl⟩
        obtain ⟨x, hx, e⟩ := List.mem_map.1 hm
        simp only [row, rowOf, Prod.mk.injEq] at e
        have := h2 x hx
        simp only [Bool.not_eq_true', decide_eq_false_iff_not]
        exact fun e' => this (by rw [e.1, e'])
      rw [this]
  · have hj : es[j]? = some e := by simpa using h2
    refine ⟨.map (es.eraseIdxIfInBounds j) c, ?_, _, _, heap_setBlock_same hb, stamped_erase hs _, ?_⟩
    · intro q
      have hb' : (dn w q).heap[r]? = some (.map es c) := hb
      simp [Builtin.delete_, run_underlying hm, MapKept.run_getObj_map hb', run_checkKey (d := .string) (k := .string k) hk trivial, run_findKey hk h1, MapKept.run_setObj_map _ hb', Result.andThen]
      rfl
    · have hlt : j < es.size := (Array.getElem?_eq_some_iff.1 hj).1
      have e1 : (es.eraseIdxIfInBounds j).toList = es.toList.eraseIdx j := by
        unfold Array.eraseIdxIfInBounds
        rw [dif_pos hlt]
        simp
      rw [e1]
      have key : ∀ (es : List MapEntry) (l : KV) (j : Nat) (e : MapEntry), es.map rowOf = l.map row → (l.map (·.1)).Nodup → es[j]? = some e → e.key = .string k →
          (es.eraseIdx j).map rowOf = (del l k).map row := by
        intro es
        induction es with
        | nil => intro l j e _ _ hj; simp at hj
        | cons x es ih =>
          intro l j e hl hn hj hk
          cases l with
          | nil => simp at hl
          | cons p l =>
            simp only [List.map_cons, List.cons.injEq] at hl
            simp only [List.map_cons, List.nodup_cons] at hn
            cases j with
            | zero =>
              simp only [List.getElem?_cons_zero, Option.some.injEq] at hj
              subst hj
              have hp : p.1 = k := by
                have := hl.1; simp only [rowOf, row, Prod.mk.injEq] at this
                rw [hk] at this; injection this.1 with h; exact h.symm
              have : del (p :: l) k = l := by
                unfold del
                simp only [List.filter_cons, hp, decide_true, Bool.not_true, Bool.false_eq_true, if_false]
                rw [List.filter_eq_self]
                intro q hq
                simp only [Bool.not_eq_true', decide_eq_false_iff_not]
                exact fun e' => hn.1 (List.mem_map.2 ⟨q, hq, e'.trans hp.symm⟩)
              rw [this]
              simpa using hl.2
            | succ j =>
              simp only [List.getElem?_cons_succ] at hj
              have hne : p.1 ≠ k := by
                intro e'
                have hm : rowOf e ∈ l.map row := hl.2 ▸ List.mem_map.2 ⟨e, List.mem_of_getElem? hj, rfl⟩
                obtain ⟨q, hq, hqe⟩ := List.mem_map.1 hm
                simp only [row, rowOf, Prod.mk.injEq] at hqe
                rw [hk] at hqe
                injection hqe.1 with h1
                exact hn.1 (List.mem_map.2 ⟨q, hq, h1.trans e'.symm⟩)
              have hd : del (p :: l) k = p :: del l k := by simp [del, hne]
              rw [hd]
              simp only [List.eraseIdx_cons_succ, List.map_cons, List.cons.injEq]
              exact ⟨hl.1, ih l j e hl.2 hn.2 hj hk⟩
      exact key es.toList l j e hl hn (by simpa using hj) h3
end
theorem SMap.made (w : World) : SMap (w.alloc (.map #[] 0)) w.heap.size [] := ⟨#[], 0, heap_alloc_new' _ _, stamped_empty 0, rfl⟩

end Go.Proofs.Ytogfllhbgkeinaa.Base
