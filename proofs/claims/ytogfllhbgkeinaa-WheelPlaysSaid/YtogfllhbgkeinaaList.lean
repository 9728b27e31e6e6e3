/-
  Lists in memory ('Sl'): a slice with its cells and the block it lies in; literals, append, slicing, index; parts of values.
-/
import Derived.Test.YtogfllhbgkeinaaAny
import Derived.Deep.AppendSrc
import Derived.Great.BuildSlice
set_option linter.unusedVariables false
set_option linter.unusedSimpArgs false
namespace Go.Proofs.Ytogfllhbgkeinaa.Eng
open Go.RowKit Base

/-! ### 1. Facts on element types -/
def elOK (P : Program) (e sz : Nat) : Bool :=
  match P.info? e with
  | some i => Nat.beq i.size sz && Nat.ble i.bytes 4096 && !Nat.beq sz 0 && match i.zero with
    | some z => Nat.beq z.cells.size sz
    | none => false
  | none => false
class TEl (P : Program) (e : TypeId) (sz : outParam Nat) : Prop where h : elOK P e sz = true
theorem TEl.get {P : Program} {e : TypeId} {sz : Nat} (c : TEl P e sz) : ∃ i z, P.info? e = some i ∧ i.size = sz ∧ i.bytes ≤ 4096 ∧ i.zero = some z ∧ z.cells.size = sz ∧ sz ≠ 0 := by
  have h := c.h
  unfold elOK at h
  cases hi : P.info? e with
  | none => simp [hi] at h
  | some i =>
    simp only [hi, Bool.and_eq_true, Bool.not_eq_true'] at h
    obtain ⟨⟨⟨h1, h2⟩, h3⟩, h4⟩ := h
    cases hz : i.zero with
    | none => simp [hz] at h4
    | some z =>
      simp only [hz] at h4
      exact ⟨i, z, rfl, Nat.eq_of_beq_eq_true h1, Nat.le_of_ble_eq_true h2, hz, Nat.eq_of_beq_eq_true h4, Nat.ne_of_beq_eq_false h3⟩

/-! ### 2. Lists -/
inductive Sl (w : World) (e sz : Nat) : Option Addr → Nat → Nat → List Value → Option Nat → Prop
  | nil : Sl w e sz none 0 0 [] none
  | at {b off len cap : Nat} {cs : List Value} {arr : Array Value} (hb : w.heap[b]? = some (.cells arr e (0, 0))) (hs : off + cap * sz ≤ arr.size) (hc : len ≤ cap) (hl : cs.length = len * sz)
      (hv : ∀ j v, cs[j]? = some v → arr[off + j]? = some v) (h1 : ∀ v ∈ cs, v.oneCell' = true) : Sl w e sz (some ⟨b, off, none⟩) len cap cs (some b)
section
variable {w : World} {e sz : Nat} {a : Option Addr} {len cap : Nat} {cs : List Value} {b : Option Nat}
theorem Sl.length (h : Sl w e sz a len cap cs b) : cs.length = len * sz := by cases h <;> simp_all
theorem Sl.le (h : Sl w e sz a len cap cs b) : len ≤ cap := by cases h <;> simp_all
theorem Sl.one (h : Sl w e sz a len cap cs b) : ∀ v ∈ cs, v.oneCell' = true := by
  cases h with
  | nil => intro v h; cases h
  | «at» _ _ _ _ _ h1 => exact h1
theorem Sl.lt (h : Sl w e sz a len cap cs b) {k : Nat} (hk : k ∈ b) : k < w.heap.size := by
  cases h with
  | nil => cases hk
  | «at» hb _ _ _ _ _ => cases hk; exact lt_of_at hb
theorem Sl.kept {S : Nat → Prop} {w' : World} (h : Sl w e sz a len cap cs b) (k : Kept S w w') (hn : ∀ x ∈ b, ¬ S x) : Sl w' e sz a len cap cs b := by
  cases h with
  | nil => exact .nil
  | «at» hb hs hc hl hv h1 => exact .at (k.at hb (hn _ rfl)) hs hc hl hv h1
theorem Sl.ext {w' : World} (h : Sl w e sz a len cap cs b) (k : Ext w w') : Sl w' e sz a len cap cs b := h.kept k fun _ _ h => h
theorem Sl.same {w' : World} (h : Sl w e sz a len cap cs b) (k : ∀ x ∈ b, w'.heap[x]? = w.heap[x]?) : Sl w' e sz a len cap cs b := by
  cases h with
  | nil => exact .nil
  | «at» hb hs hc hl hv h1 => exact .at ((k _ rfl).trans hb) hs hc hl hv h1
/-- of a list that is not empty -/
theorem Sl.pos (h : Sl w e sz a len cap cs b) (hp : 0 < len) : ∃ k off, a = some ⟨k, off, none⟩ ∧ b = some k ∧ Cells w k off cs ∧ ∀ i, w.frozen? ⟨k, i, none⟩ = false := by
  cases h with
  | nil => omega
  | «at» hb hs hc hl hv h1 => exact ⟨_, _, rfl, rfl, fun j v hj => by rw [cell_of hb]; exact hv j v hj, fun i => free_of hb i⟩
theorem Sl.dn (h : Sl w e sz a len cap cs b) (k : Nat) : Sl (Base.dn w k) e sz a len cap cs b := h.same fun _ _ => rfl
/-- a part of it -/
theorem Sl.part (h : Sl w e sz a len cap cs b) {l u : Nat} (hlu : l ≤ u) (hu : u ≤ len) : Sl w e sz (if cap = l then a else a.map (·.add (l * sz))) (u - l) (cap - l) ((cs.take (u * sz)).drop (l * sz)) b := by
  cases h with
  | nil =>
    obtain rfl : l = 0 := by omega
    obtain rfl : u = 0 := by omega
    simpa using Sl.nil (w := w) (e := e) (sz := sz)
  | @«at» b off _ _ _ arr hb hs hc hl hv h1 =>
    have hls : l * sz ≤ cap * sz := Nat.mul_le_mul_right _ (by omega)
    have hlen : ((cs.take (u * sz)).drop (l * sz)).length = (u - l) * sz := by
      rw [List.length_drop, List.length_take, hl, Nat.min_eq_left (Nat.mul_le_mul_right _ hu), Nat.sub_mul]
    have hone : ∀ v ∈ (cs.take (u * sz)).drop (l * sz), v.oneCell' = true := fun v hv => h1 v (List.mem_of_mem_take (List.mem_of_mem_drop hv))
    by_cases e : cap = l
    · rw [if_pos e]
      have : u - l = 0 := by omega
      rw [this] at hlen ⊢
      have hnil : (cs.take (u * sz)).drop (l * sz) = [] := List.eq_nil_of_length_eq_zero (by simpa using hlen)
      rw [hnil]
      refine .at hb ?_ (by omega) (by simp) (by simp) (by simp)
      have : (cap - l) * sz ≤ cap * sz := Nat.mul_le_mul_right _ (by omega)
      omega
    · rw [if_neg e, Option.map_some, add_at]
      refine .at hb ?_ (by omega) hlen (fun j v hj => ?_) hone
      · rw [Nat.sub_mul]; omega
      · rw [List.getElem?_drop, List.getElem?_take] at hj
        split at hj
        · have := hv _ _ hj
          rw [← Nat.add_assoc] at this; exact this
        · cases hj
theorem Sl.head (h : Sl w e sz a len cap cs b) {u : Nat} (hu : u ≤ len) (hsz : 0 < cap) : Sl w e sz a u cap (cs.take (u * sz)) b := by
  have := h.part (Nat.zero_le u) hu
  rw [if_neg (by omega)] at this
  simp only [Nat.zero_mul, List.drop_zero, Nat.sub_zero] at this
  have ha : a.map (·.add 0) = a := by cases a <;> simp [Addr.add]
  rwa [ha] at this
end

/-! ### 3. Literals -/
variable {P : Program} {l : Fr} {w : World} {T : TypeId} {x y z : Operand} {v : Value}
def evp (l : Fr) : List (Nat × Operand) → Option (List (Nat × Value))
  | [] => some []
  | p :: ps => match ev l p.2 with
    | some v => match evp l ps with
      | some vs => some ((p.1, v) :: vs)
      | none => none
    | none => none
theorem Env.allp {ρ : Operand → Value} (h : Env ρ l) : ∀ {ps : List (Nat × Operand)} {vs : List (Nat × Value)}, evp l ps = some vs → ps.map (fun p => (p.1, ρ p.2)) = vs
  | [], vs, e => by simp [evp] at e; simp [e]
  | p :: ps, vs, e => by
    unfold evp at e
    cases h1 : ev l p.2 with
    | none => simp [h1] at e
    | some v =>
      cases h2 : evp l ps with
      | none => simp [h1, h2] at e
      | some us =>
        simp only [h1, h2, Option.some.injEq] at e
        rw [← e, List.map_cons, h p.2 v h1, Env.allp h h2]
theorem e_build {ps : List (Nat × Operand)} {vs : List (Nat × Value)} (cs : List Value) (hp : evp l ps = some vs) (h : P.built T vs = some cs.toArray) : Eg P l (.build T ps.toArray) w (.agg cs.toArray) := fun ρ hr d t p af g k₀ => by
  have h1 := Env.allp hr hp
  have := run_build (P := P) (dn w k₀) T vs.toArray cs.toArray (by simpa using h)
  simp [execOp, h1, this, Result.andThen]
theorem e_buildSlice {ps : List (Nat × Operand)} {vs : List (Nat × Value)} {e sz len : Nat} (cs : List Value) [c : TSlice P T e sz] [ce : TEl P e sz] (hlen : Nat.blt 0 len = true) (hsm : Nat.ble (len * sz) 16777216 = true) (hp : evp l ps = some vs)
    (hcs : Nat.beq cs.length (len * sz) = true) (h : ∀ zs : Array Value, zs.size = len * sz → Instr.fill (fun i => some (i * sz, sz)) zs vs = some cs.toArray) :
    Ev P l (.buildSlice T len ps.toArray) w (.slice (some ⟨w.heap.size, 0, none⟩) len len) (w.alloc (.cells cs.toArray e)) := fun ρ hr d t p af g k₀ => by
  obtain ⟨i, z, hi, hs, _, hz, hzs, h0⟩ := ce.get
  have h1 := Env.allp hr hp
  have hl := Nat.le_of_ble_eq_true hsm
  have hl0 : 0 < len := by simpa using hlen
  have hpos : ¬ len * sz = 0 := by
    intro e
    rcases Nat.mul_eq_zero.1 e with e | e <;> omega
  subst hs
  have := run_buildSlice (P := P) (dn w k₀) T e len vs.toArray cs.toArray i z c.h hi hz (by omega) hpos (h _ (by simp))
  exact ⟨k₀, Nat.le_refl _, by simp [execOp, h1, this, Result.andThen]⟩
/-- what one element's literal is -/
theorem fill_one {v : Value} {sz : Nat} {cs : List Value} (h : v.cells = cs.toArray) (hl : cs.length = sz) (zs : Array Value) (hz : zs.size = 1 * sz) : Instr.fill (fun i => some (i * sz, sz)) zs [(0, v)] = some cs.toArray := by
  subst hl
  have key : ∀ (cs : List Value) (k : Nat) (zs : Array Value), k + cs.length = zs.size → (cs.zipIdx k).foldl (fun cs (p : Value × Nat) => cs.setIfInBounds p.2 p.1) zs = (zs.toList.take k ++ cs).toArray := by
    intro cs
    induction cs with
    | nil => intro k zs h; simp at h; subst h; exact Array.ext' (by simp; exact (List.take_of_length_le (by simp)).symm)
    | cons c cs ih =>
      intro k zs h
      simp only [List.length_cons] at h
      rw [List.zipIdx_cons, List.foldl_cons, ih _ _ (by simp; omega)]
      apply Array.ext'
      simp only [Array.toList_setIfInBounds]
      rw [List.take_set, List.set_eq_take_append_cons_drop]
      have : k < (List.take (k + 1) zs.toList).length := by simp; omega
      rw [if_pos this]
      simp [List.take_take]
  have k := key cs 0 zs (by omega)
  simp only [List.take_zero, List.nil_append] at k
  have e1 : v.cells.zipIdx.foldl (fun cs (p : Value × Nat) => cs.setIfInBounds (0 * cs.size + p.2) p.1) zs = v.cells.zipIdx.foldl (fun cs (p : Value × Nat) => cs.setIfInBounds p.2 p.1) zs := by simp
  simp only [Instr.fill, Nat.zero_mul, Nat.zero_add]
  rw [if_neg (by simp [h]; omega), ← k, ← Array.foldl_toList, h]
  simp
theorem Sl.made {e sz : Nat} {cs : List Value} {len : Nat} (hl : cs.length = len * sz) (h1 : ∀ v ∈ cs, v.oneCell' = true) : Sl (w.alloc (.cells cs.toArray e)) e sz (some ⟨w.heap.size, 0, none⟩) len len cs (some w.heap.size) :=
  .at (heap_alloc_new' _ _) (by simp [hl]) (Nat.le_refl _) hl (fun j v h => by simpa using h) h1

/-! ### 4. What may come out more than one way -/
def Er (P : Program) (l : Fr) (op : Op) (w : World) (R : Value → World → Prop) : Prop :=
  ∀ ρ, Env ρ l → ∀ d t p af g k, ∃ v w' k', k ≤ k' ∧ (execOp ρ ⟨d, op, t, p, af, g⟩).run P (dn w k) = .ok (.value v) (dn w' k') ∧ R v w'
section
variable {ops : Array Oper} {Q : Exit → Act → World → Prop} {rest : List Oper} {op : Op} {d ty n zz : Nat} {pos : String} {af : Array Edge}
theorem s_rel {R : Value → World → Prop} (hd : Nat.blt d n = true) (he : Er P l op w R) (h : ∀ v w', R v w' → wl P n zz ops Q rest ((d, v) :: l) w') : wl P n zz ops Q (⟨some d, op, ty, pos, af, none⟩ :: rest) l w := by
  intro a k hz ha
  refine wpList_plain rfl fun K hK => ?_
  obtain ⟨v, w', k', hk', he', hr⟩ := he a.eval ha.env (some d) ty pos af none k
  simp only [Oper.wp, he', Oper.upon]
  exact hK _ _ (h v w' hr _ _ (Nat.le_trans hz hk') (ha.put hd v))
theorem d_rel {S : World → Prop} {H : List Nat} {fuel i : Nat} {listed : Array Bool} {oi : Oper} {R : Value → World → Prop} (hi : ops[i]? = some oi) (hg : oi = ⟨some d, op, ty, pos, af, none⟩) (hd : Nat.blt d n = true) (hr : Region.ready .any ops listed = [i]) (he : Er P l op w R)
    (hS : ∀ v w', R v w' → need ops H i = false ∨ S w') (h : ∀ v w', R v w' → da P n zz ops Q S H fuel (listed.setIfInBounds i true) ((d, v) :: l) w') : da P n zz ops Q S H (fuel + 1) listed l w := by
  subst hg
  refine d_next hi hr fun a k hz ha hcl => ?_
  unfold wpOp
  simp only [hi, Region.wanted, if_true]
  refine .inl ?_
  obtain ⟨v, w', k', hk', he', hr'⟩ := he a.eval ha.env (some d) ty pos af none k
  simp only [Oper.wp, he', Oper.upon]
  exact ⟨fun hn _ => ⟨w', k', rfl, (hS v w' hr').resolve_left (by rw [hn]; simp)⟩, h v w' hr' _ k' (Nat.le_trans hz hk') (ha.put hd v) hcl⟩
end

/-! ### 5. append -/
theorem setCells_at {b : Nat} {e : TypeId} : ∀ (vs : List Value) (o : Nat) (w : World) (arr : Array Value), w.heap[b]? = some (.cells arr e (0, 0)) → o + vs.length ≤ arr.size →
    ∃ arr', (w.setCells b o vs).heap[b]? = some (.cells arr' e (0, 0)) ∧ arr'.size = arr.size ∧ (∀ j, j < o → arr'[j]? = arr[j]?) ∧ (∀ j v, vs[j]? = some v → arr'[o + j]? = some v)
  | [], o, w, arr, h, _ => ⟨arr, h, rfl, fun _ _ => rfl, fun j v h => by simp at h⟩
  | u :: vs, o, w, arr, h, hl => by
    simp only [List.length_cons] at hl
    obtain ⟨arr', h1, h2, h3, h4⟩ := setCells_at vs (o + 1) (w.setCell ⟨b, o, none⟩ u) _ (Base.heap_setCell_same h o u) (by simp; omega)
    refine ⟨arr', h1, by simpa using h2, fun j hj => ?_, fun j v hj => ?_⟩
    · rw [h3 j (by omega), Array.getElem?_setIfInBounds_ne (by omega)]
    · cases j with
      | zero =>
        simp only [List.getElem?_cons_zero, Option.some.injEq] at hj
        subst hj
        rw [Nat.add_zero, h3 o (by omega), Array.getElem?_setIfInBounds_self_of_lt (by omega)]
      | succ j =>
        rw [show o + (j + 1) = o + 1 + j from by omega]
        exact h4 j v (by simpa using hj)
theorem kept_setCells {S : Nat → Prop} {b : Nat} (hS : S b) : ∀ (vs : List Value) (o : Nat) (w : World), Kept S w (w.setCells b o vs)
  | [], _, w => Kept.refl _ _
  | v :: vs, o, w => (Kept.setCell w ⟨b, o, none⟩ v hS).trans (kept_setCells hS vs (o + 1) _) fun _ _ h => h
theorem setCells_dn (b k : Nat) : ∀ (vs : List Value) (o : Nat) (w : World), (dn w k).setCells b o vs = dn (w.setCells b o vs) k
  | [], _, _ => rfl
  | v :: vs, o, w => by simp only [World.setCells, dn_setCell, setCells_dn b k vs]
theorem Sl.src {e sz len cap : Nat} {a : Option Addr} {cs : List Value} {b : Option Nat} [c : TSlice P T e sz] (h : Sl w e sz a len cap cs b) : Src P sz T (.slice a len cap) len cs w := by
  cases h with
  | nil => exact Src.ofNil w c.h 0
  | «at» hb hs hc hl hv h1 => exact Src.ofSlice w c.h _ _ _ _ hl (fun j u hj => by rw [add_at, cell_of hb]; exact hv j u hj) h1
theorem e_append {e sz len cap m mc : Nat} {a a2 : Option Addr} {cs ds : List Value} {b b2 : Option Nat} {T2 : TypeId} [c : TSlice P T e sz] [c2 : TSlice P T2 e sz] [ce : TEl P e sz] (hx : ev l x = some (.slice a len cap)) (hy : ev l y = some (.slice a2 m mc))
    (h : Sl w e sz a len cap cs b) (k : Sl w e sz a2 m mc ds b2) (hsm : len + m ≤ 1073741824) :
    Er P l (.call ⟨.builtin .append, #[x, y], #[T, T2]⟩) w fun v w' => ∃ a' cap' b', v = .slice a' (len + m) cap' ∧ Sl w' e sz a' (len + m) cap' (cs ++ ds) b' ∧ Kept (fun i => b = some i) w w' ∧ (b' = b ∨ b' = some w.heap.size ∧ w.heap.size < w'.heap.size) := fun ρ hr d t p af g q => by
  obtain ⟨i, z, hi, hs, hby, hz, hzs, h0⟩ := ce.get
  subst hs
  have hsrc : Src P i.size T2 (.slice a2 m mc) m ds (dn w q) := (k.dn q).src
  by_cases hroom : len + m ≤ cap
  · cases h with
    | nil =>
      obtain rfl : m = 0 := by omega
      have hd : ds = [] := List.eq_nil_of_length_eq_zero (by have := k.length; simpa using this)
      subst hd
      refine ⟨.slice none 0 0, w, q, Nat.le_refl _, ?_, none, 0, none, rfl, by simpa using Sl.nil, Kept.refl _ _, .inl rfl⟩
      rcases hsrc.kind with ⟨e', hk⟩ | hk <;> simp [execOp, resolve, invoke, builtin, hr x _ hx, hr y _ hy, Builtin.append_, run_underlying c.h, run_underlying hk, sizeOf, typeInfo, hi, hsrc.len, hsrc.cells, Result.andThen]
    | @«at» b off _ _ _ arr hb hsz hc hl hv h1 =>
      have hb' : (dn w q).heap[b]? = some (.cells arr e (0, 0)) := hb
      have hle : (len + m) * i.size ≤ cap * i.size := Nat.mul_le_mul_right _ hroom
      have hdl := k.length
      rw [Nat.add_mul] at hle
      have := run_append_room_src (P := P) (dn w q) T T2 t e i c.h hi b off len cap (.slice a2 m mc) m ds hsrc hroom
        (fun j hj => by rw [cell_of hb', Array.getElem?_eq_getElem (by omega)]; rfl) (fun j _ => free_of hb' _)
      rw [setCells_dn] at this
      obtain ⟨arr', g1, g2, g3, g4⟩ := setCells_at ds (off + len * i.size) w arr hb (by omega)
      refine ⟨_, _, q, Nat.le_refl _, ?_, some ⟨b, off, none⟩, cap, some b, rfl, .at g1 (by omega) hroom (by rw [List.length_append, hl, hdl, Nat.add_mul]) (fun j v hj => ?_) (fun v hv' => ?_), kept_setCells (S := fun i => some b = some i) rfl _ _ _, .inl rfl⟩
      · simp [execOp, resolve, invoke, builtin, hr x _ hx, hr y _ hy, this, Result.andThen]
      · rw [List.getElem?_append] at hj
        split at hj
        · rw [g3 _ (by omega)]; exact hv j v hj
        · have := g4 _ _ hj
          rw [show off + len * i.size + (j - cs.length) = off + j from by omega] at this
          exact this
      · rcases List.mem_append.1 hv' with h | h
        · exact h1 v h
        · exact k.one v h
  · have hold : (Builtin.firstCells i.size len (.slice a len cap)).run P (dn w q).drew = .ok cs.toArray (dn w q).drew := ((h.dn (q + 1)).src (T := T)).cells
    have hfit : Builtin.nextslicecap (len + m) cap * i.bytes ≤ 281474976710656 := growslice_fits (by omega) (by
      have : (len + m) * i.bytes ≤ 1073741824 * 4096 := Nat.mul_le_mul hsm hby
      omega)
    have := run_append_grow_src (P := P) (dn w q) T T2 t e i z c.h hi hz a len cap cs hold (.slice a2 m mc) m ds hsrc (by omega) (by omega) hfit
    have hge := grownCap_ge (dn w q) (len + m) cap e
    generalize hC : grownCap (dn w q) (len + m) cap e = C at this hge
    refine ⟨_, w.alloc (.cells ((cs ++ ds).toArray ++ Builtin.zeroCells z.cells (C - (len + m))) e), q + 1, Nat.le_succ _, ?_, some ⟨w.heap.size, 0, none⟩, C, some w.heap.size, rfl, .at (Base.heap_alloc_new' _ _) ?_ hge (by rw [List.length_append, h.length, k.length, Nat.add_mul]) (fun j v hj => ?_) (fun v hv' => ?_), Kept.alloc _ _ _, .inr ⟨rfl, by simp⟩⟩
    · have e1 : (dn w q).drew.alloc (.cells ((cs ++ ds).toArray ++ Builtin.zeroCells z.cells (C - (len + m))) e) = dn (w.alloc (.cells ((cs ++ ds).toArray ++ Builtin.zeroCells z.cells (C - (len + m))) e)) (q + 1) := rfl
      rw [← e1]
      simp [execOp, resolve, invoke, builtin, hr x _ hx, hr y _ hy, this, Result.andThen]
    · have : (C - (len + m)) * i.size + (len + m) * i.size = C * i.size := by rw [← Nat.add_mul]; congr 1; omega
      have h2 := h.length
      have h3 := k.length
      have h4 : (len + m) * i.size = len * i.size + m * i.size := Nat.add_mul _ _ _
      simp [Builtin.zeroCells, hzs]
      omega
    · rw [Nat.zero_add, Array.getElem?_append_left (by simpa using (List.getElem?_eq_some_iff.1 hj).1)]
      simpa using hj
    · rcases List.mem_append.1 hv' with g | g
      · exact h.one v g
      · exact k.one v g

/-! ### 6. Parts -/
theorem e_slH {e sz len cap : Nat} {a : Option Addr} {k : IntKind} {u : Int} [c : TSlice P T e sz] (hx : ev l x = some (.slice a len cap)) (hy : ev l y = some (.int k u)) (h0 : 0 ≤ u) (h1 : u ≤ cap) :
    Eg P l (.slice T x none (some y) none) w (.slice (if cap = 0 then a else a.map (·.add (0 * sz))) (u.toNat - 0) (cap - 0)) := fun ρ hr d t p af g k₀ => by
  have ht : P.underlying T = some (.slice (P.elem T)) := by simp [Program.elem, c.h]
  have he : P.elem T = e := by simp [Program.elem, c.h]
  have := run_slice_h (P := P) (w := dn w k₀) T a len cap ht k u h0 h1
  rw [he, run_sizeOf c.s] at this
  simp [execOp, hr x _ hx, hr y _ hy, run_sliceAt_slice _ _ _ _ _ _ ht, this, Result.andThen, sliced]
theorem e_slL {e sz len cap : Nat} {a : Option Addr} {k : IntKind} {u : Int} [c : TSlice P T e sz] (hx : ev l x = some (.slice a len cap)) (hy : ev l y = some (.int k u)) (h0 : 0 ≤ u) (h1 : u ≤ len) :
    Eg P l (.slice T x (some y) none none) w (.slice (if cap = u.toNat then a else a.map (·.add (u.toNat * sz))) (len - u.toNat) (cap - u.toNat)) := fun ρ hr d t p af g k₀ => by
  have ht : P.underlying T = some (.slice (P.elem T)) := by simp [Program.elem, c.h]
  have he : P.elem T = e := by simp [Program.elem, c.h]
  have := run_slice_l (P := P) (w := dn w k₀) T a len cap ht k u h0 h1
  rw [he, run_sizeOf c.s] at this
  simp [execOp, hr x _ hx, hr y _ hy, run_sliceAt_slice _ _ _ _ _ _ ht, this, Result.andThen, sliced]
theorem e_slLH {e sz len cap : Nat} {a : Option Addr} {k k' : IntKind} {u r : Int} [c : TSlice P T e sz] (hx : ev l x = some (.slice a len cap)) (hy : ev l y = some (.int k u)) (hz : ev l z = some (.int k' r)) (h0 : 0 ≤ u) (h1 : u ≤ r) (h2 : r ≤ cap) :
    Eg P l (.slice T x (some y) (some z) none) w (.slice (if cap = u.toNat then a else a.map (·.add (u.toNat * sz))) (r.toNat - u.toNat) (cap - u.toNat)) := fun ρ hr d t p af g k₀ => by
  have ht : P.underlying T = some (.slice (P.elem T)) := by simp [Program.elem, c.h]
  have he : P.elem T = e := by simp [Program.elem, c.h]
  have := run_slice_lh (P := P) (w := dn w k₀) T a len cap ht k k' u r h0 h1 h2
  rw [he, run_sizeOf c.s] at this
  simp [execOp, hr x _ hx, hr y _ hy, hr z _ hz, run_sliceAt_slice _ _ _ _ _ _ ht, this, Result.andThen, sliced]
theorem e_strLH {s : ByteArray} {k k' : IntKind} {u r : Int} [c : TStr P T] (hx : ev l x = some (.string s)) (hy : ev l y = some (.int k u)) (hz : ev l z = some (.int k' r)) (h0 : 0 ≤ u) (h1 : u ≤ r) (h2 : r ≤ s.size) :
    Eg P l (.slice T x (some y) (some z) none) w (.string (s.extract u.toNat r.toNat)) := fun ρ hr d t p af g k₀ => by
  have := run_slice_string (P := P) (dn w k₀) T s k k' u r c.h h0 h1 h2
  simp [execOp, hr x _ hx, hr y _ hy, hr z _ hz, run_sliceAt_string _ _ _ _ _ _ c.h, this, Result.andThen]
theorem e_min {i j : Int} {k : IntKind} (hx : ev l x = some (.int k i)) (hy : ev l y = some (.int k j)) {at_ : Array TypeId} : Eg P l (.call ⟨.builtin .min, #[x, y], at_⟩) w (.int k (if j < i then j else i)) := fun ρ hr d t p af g k₀ => by
  simp [execOp, resolve, invoke, builtin, hr x _ hx, hr y _ hy, Builtin.min_, Builtin.min2, Result.andThen]

/-! ### 7. Whole values in memory -/
theorem e_stn {b o k : Nat} {cs : List Value} [c : TAgg P T k] (hx : ev l x = some (.pointer (some ⟨b, o, none⟩))) (hy : ev l y = some (.agg cs.toArray)) (hl : cs.length = k) (h1 : ∀ v ∈ cs, v.oneCell' = true)
    (hc : ∀ j, j < cs.length → (w.cell? ⟨b, o + j, none⟩).isSome = true) (hf : ∀ j, j < cs.length → w.frozen? ⟨b, o + j, none⟩ = false) : Es P l (.store T x y) w (w.setCells b o cs) := fun ρ h d t p af g k₀ => by
  have := run_storeCells_cells (P := P) b o cs 0 (dn w k₀) (by simpa using hc) (by simpa using hf) h1
  rw [Nat.add_zero, setCells_dn] at this
  refine ⟨k₀, Nat.le_refl _, ?_⟩
  have hs : ¬ (Value.agg cs.toArray).cells.size ≠ k := by simp [Value.cells, hl]
  simp [execOp, h x _ hx, h y _ hy, Instr.storeAt, Instr.sureAddr, storeVar, TAgg.size (T := T), Value.cells, hl, this, Result.andThen]
theorem run_load' {a : Addr} (hc : w.cell? a = some v) (k : Nat) : (load a).run P (dn w k) = .ok v (dn w k) := by simp [run_load, hc]
section
variable {Q : Exit → Act → World → Prop} {n zz : Nat}
theorem x_retc {fn : Func} {R : Value → World → Prop} {t k b o : Nat} {cs : List Value} {e : Exit} [c : TAgg P T k] (he : e = .ret ∨ e = .normal) (hr : fn.results = #[.cell t T]) (hv : look l t = some (.pointer (some ⟨b, o, none⟩))) (hl : cs.length = k) (hc : Cells w b o cs)
    (h : R (.agg cs.toArray) w) : wx n zz (bodyPost P fn (rp zz R)) e l w := fun a q hz ha => by
  have h0 := run_loadCells_list (P := P) (w := dn w q) ⟨b, o, none⟩ cs (fun j v hj => by rw [add_at]; exact hc j v hj)
  rw [hl] at h0
  have h1 : (results fn a.tmps).run P (dn w q) = .ok (.agg cs.toArray) (dn w q) := by
    have hs := ha.slot t _ hv
    rw [Array.getD_eq_getD_getElem?] at hs
    unfold results
    simp [hr, hs, asAddr, loadVar, TAgg.agg (T := T), TAgg.size (T := T), h0, Result.andThen]
  rcases he with rfl | rfl <;> exact ⟨ha.defers, _, h1, _, rfl, w, q, rfl, hz, h⟩
theorem x_retc1 {fn : Func} {R : Value → World → Prop} {t : Nat} {a : Addr} {e : Exit} [c : TOne P T] (he : e = .ret ∨ e = .normal) (hr : fn.results = #[.cell t T]) (hv : look l t = some (.pointer (some a))) (hc : w.cell? a = some v)
    (h : R v w) : wx n zz (bodyPost P fn (rp zz R)) e l w := fun a' q hz ha => by
  have h1 : (results fn a'.tmps).run P (dn w q) = .ok v (dn w q) := by
    have hs := ha.slot t _ hv
    rw [Array.getD_eq_getD_getElem?] at hs
    unfold results
    simp [hr, hs, asAddr, loadVar, TOne.agg (T := T), run_load, hc, Result.andThen]
  rcases he with rfl | rfl <;> exact ⟨ha.defers, _, h1, _, rfl, w, q, rfl, hz, h⟩
end
end Go.Proofs.Ytogfllhbgkeinaa.Eng
