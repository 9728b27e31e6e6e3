/-
  A small engine for walks: a frame is a list of slots with their values ('Fr'); code and lists of operations are run from such frames ('wq', 'wl'), one rule a form.
-/
import Derived.Test.YtogfllhbgkeinaaBase
import Derived.OrdersHeld
import Derived.Scope
set_option linter.unusedVariables false
set_option linter.unusedSimpArgs false
namespace Go.Proofs.Ytogfllhbgkeinaa.Eng
open Go.RowKit Base

abbrev Fr := List (Nat × Value)
def look : Fr → Nat → Option Value
  | [], _ => none
  | p :: l, t => bif Nat.beq p.1 t then some p.2 else look l t
def ev (l : Fr) : Operand → Option Value
  | .tmp t => look l t
  | .const v => some v
  | .global g => some (.pointer (some ⟨g, 0, none⟩))
  | .func f => some (.func (.func f) #[] #[])
def evs (l : Fr) : List Operand → Option (List Value)
  | [] => some []
  | x :: xs => match ev l x with
    | some v => match evs l xs with
      | some vs => some (v :: vs)
      | none => none
    | none => none
structure Fits (n : Nat) (a : Act) (l : Fr) : Prop where
  size : a.tmps.size = n
  defers : a.defers = []
  slot : ∀ t v, look l t = some v → a.tmps.getD t undef = v
variable {n : Nat} {a : Act} {l : Fr}
theorem Fits.eval (h : Fits n a l) {x : Operand} {v : Value} (hx : ev l x = some v) : a.eval x = v := by
  cases x with
  | tmp t => exact h.slot t v hx
  | const u => exact Option.some.inj hx
  | global g => exact Option.some.inj hx
  | func f => exact Option.some.inj hx
def Env (ρ : Operand → Value) (l : Fr) : Prop := ∀ x v, ev l x = some v → ρ x = v
theorem Fits.env (h : Fits n a l) : Env a.eval l := fun _ _ hx => h.eval hx
theorem Env.all {ρ : Operand → Value} (h : Env ρ l) : ∀ {xs : List Operand} {vs : List Value}, evs l xs = some vs → xs.map ρ = vs
  | [], vs, e => by simp [evs] at e; simp [e]
  | x :: xs, vs, e => by
    simp only [evs] at e
    cases h1 : ev l x with
    | none => simp [h1] at e
    | some v =>
      cases h2 : evs l xs with
      | none => simp [h1, h2] at e
      | some us =>
        simp only [h1, h2, Option.some.injEq] at e
        subst e
        simp [h x v h1, Env.all h h2]
theorem getD_set_same {A : Array Value} {d : Nat} {v : Value} (h : d < A.size) : (A.setIfInBounds d v).getD d undef = v := by
  simp [Array.getD_eq_getD_getElem?, h]
theorem getD_set_other {A : Array Value} {d t : Nat} {v : Value} (h : d ≠ t) : (A.setIfInBounds d v).getD t undef = A.getD t undef := by
  simp [Array.getD_eq_getD_getElem?, h]
theorem Fits.put (h : Fits n a l) {d : Nat} (hd : Nat.blt d n = true) (v : Value) : Fits n (a.put (some d) v) ((d, v) :: l) := by
  have hd' : d < a.tmps.size := by rw [h.size]; simpa [Nat.blt_eq] using hd
  refine ⟨by simp [Act.put, h.size], h.defers, fun t u ht => ?_⟩
  simp only [Act.put]
  simp only [look] at ht
  cases he : Nat.beq d t with
  | true =>
    have := Nat.eq_of_beq_eq_true he
    subst this
    simp only [he, cond_true, Option.some.injEq] at ht
    rw [getD_set_same hd', ht]
  | false =>
    have hne := Nat.ne_of_beq_eq_false he
    simp only [he, cond_false] at ht
    rw [getD_set_other hne]; exact h.slot t u ht
theorem Fits.put_none (h : Fits n a l) (v : Value) : Fits n (a.put none v) l := h
/-- a frame that holds all that another one holds -/
def Cov (l : Fr) : Fr → Prop
  | [] => True
  | p :: r => look l p.1 = some p.2 ∧ Cov l r
theorem Cov.look {l r : Fr} (h : Cov l r) {t : Nat} {v : Value} (ht : Eng.look r t = some v) : Eng.look l t = some v := by
  induction r with
  | nil => simp [Eng.look] at ht
  | cons p r ih =>
    simp only [Eng.look] at ht
    cases he : Nat.beq p.1 t with
    | true =>
      have := Nat.eq_of_beq_eq_true he
      simp only [he, cond_true, Option.some.injEq] at ht
      rw [← this, ← ht]; exact h.1
    | false =>
      simp only [he, cond_false] at ht
      exact ih h.2 ht
theorem Fits.cov {r : Fr} (h : Fits n a l) (c : Cov l r) : Fits n a r := ⟨h.size, h.defers, fun t v ht => h.slot t v (c.look ht)⟩

/-! ### Running one operation from a frame -/
variable {P : Program}
def Ev (P : Program) (l : Fr) (op : Op) (w : World) (v : Value) (w' : World) : Prop :=
  ∀ ρ, Env ρ l → ∀ d t p af g k, ∃ k', k ≤ k' ∧ (execOp ρ ⟨d, op, t, p, af, g⟩).run P (dn w k) = .ok (.value v) (dn w' k')
/-- .. that draws nothing and changes nothing -/
def Eg (P : Program) (l : Fr) (op : Op) (w : World) (v : Value) : Prop := ∀ ρ, Env ρ l → ∀ d t p af g k, (execOp ρ ⟨d, op, t, p, af, g⟩).run P (dn w k) = .ok (.value v) (dn w k)
theorem Eg.ev {op : Op} {w : World} {v : Value} (h : Eg P l op w v) : Ev P l op w v w := fun ρ hr d t p af g k => ⟨k, Nat.le_refl _, h ρ hr d t p af g k⟩
def Es (P : Program) (l : Fr) (op : Op) (w w' : World) : Prop :=
  ∀ ρ, Env ρ l → ∀ d t p af g k, ∃ k', k ≤ k' ∧ (execOp ρ ⟨d, op, t, p, af, g⟩).run P (dn w k) = .ok .skip (dn w' k')
/-- the call of a Go function: which, with what -/
def Ec (P : Program) (l : Fr) (op : Op) (f : FuncId) (args : Array Value) : Prop :=
  ∀ ρ, Env ρ l → ∀ d t p af g w, (execOp ρ ⟨d, op, t, p, af, g⟩).run P w = .ok (.enter f args) w

/-- what a call that returns leaves -/
def rp (z : Nat) (R : Value → World → Prop) : Ending → World → Prop := fun e w' => ∃ v, e = .returned v ∧ ∃ w1 k', w' = dn w1 k' ∧ z ≤ k' ∧ R v w1
/-- a call that returns -/
def Ret (P : Program) (f : FuncId) (args : Array Value) (w : World) (R : Value → World → Prop) : Prop :=
  ∀ k, Calls P f args (dn w k) (rp k R)
theorem Ret.mono {f : FuncId} {args : Array Value} {w : World} {R R' : Value → World → Prop} (h : Ret P f args w R) (k : ∀ v w', R v w' → R' v w') : Ret P f args w R' :=
  fun j => Calls.mono (h j) fun _ _ ⟨v, e, w1, k', hw, hk, r⟩ => ⟨v, e, w1, k', hw, hk, k v _ r⟩
/-- of a contract that leaves the world alone -/
theorem Ret.of_same {f : FuncId} {args : Array Value} {w₀ : World} {R : World → Ending → World → Prop} {R' : Value → Prop} (h : ∀ w, Calls P f args w fun e w' => R w e w' ∧ w = w')
    (k : ∀ e, (∃ w w', R w e w') → ∃ v, e = .returned v ∧ R' v) : Ret P f args w₀ fun v w' => R' v ∧ w' = w₀ := fun j => Calls.mono (h _) fun e w' ⟨r, hw⟩ => by
  obtain ⟨v, he, hr⟩ := k e ⟨_, _, r⟩
  exact ⟨v, he, w₀, j, hw.symm, Nat.le_refl _, hr, rfl⟩

section
variable {z : Nat} {ops : Array Oper} {Q : Exit → Act → World → Prop} {w w' : World} {rest : List Oper} {op : Op} {d ty : Nat} {pos : String} {af : Array Edge} {v : Value}
/-- a list of operations from a frame -/
def wl (P : Program) (n z : Nat) (ops : Array Oper) (Q : Exit → Act → World → Prop) (os : List Oper) (l : Fr) (w : World) : Prop := ∀ a k, z ≤ k → Fits n a l → wpList P ops Q os a (dn w k)
/-- code from a frame -/
def wq (P : Program) (n z : Nat) (c : Code) (Q : Exit → Act → World → Prop) (l : Fr) (w : World) : Prop := ∀ a k, z ≤ k → Fits n a l → c.wp P Q a (dn w k)
/-- an exit from a frame -/
def wx (n z : Nat) (Q : Exit → Act → World → Prop) (e : Exit) (l : Fr) (w : World) : Prop := ∀ a k, z ≤ k → Fits n a l → Q e a (dn w k)

theorem s_val (hd : Nat.blt d n = true) (he : Ev P l op w v w') (h : wl P n z ops Q rest ((d, v) :: l) w') : wl P n z ops Q (⟨some d, op, ty, pos, af, none⟩ :: rest) l w := by
  intro a k hz ha
  refine wpList_plain rfl fun K hK => ?_
  obtain ⟨k', hk', he'⟩ := he a.eval ha.env (some d) ty pos af none k
  simp only [Oper.wp, he', Oper.upon]
  exact hK _ _ (h _ _ (Nat.le_trans hz hk') (ha.put hd v))
theorem s_get (hd : Nat.blt d n = true) (he : Eg P l op w v) (h : wl P n z ops Q rest ((d, v) :: l) w) : wl P n z ops Q (⟨some d, op, ty, pos, af, none⟩ :: rest) l w := s_val hd he.ev h
theorem s_val0 (he : Ev P l op w v w') (h : wl P n z ops Q rest l w') : wl P n z ops Q (⟨none, op, ty, pos, af, none⟩ :: rest) l w := by
  intro a k hz ha
  refine wpList_plain rfl fun K hK => ?_
  obtain ⟨k', hk', he'⟩ := he a.eval ha.env none ty pos af none k
  simp only [Oper.wp, he', Oper.upon]
  exact hK _ _ (h _ _ (Nat.le_trans hz hk') ha)
theorem s_set (he : Es P l op w w') (h : wl P n z ops Q rest l w') : wl P n z ops Q (⟨none, op, ty, pos, af, none⟩ :: rest) l w := by
  intro a k hz ha
  refine wpList_plain rfl fun K hK => ?_
  obtain ⟨k', hk', he'⟩ := he a.eval ha.env none ty pos af none k
  simp only [Oper.wp, he', Oper.upon]
  exact hK _ _ (h _ _ (Nat.le_trans hz hk') ha)
theorem s_call {f : FuncId} {args : Array Value} {R : Value → World → Prop} (hd : Nat.blt d n = true) (he : Ec P l op f args) (hc : Ret P f args w R)
    (h : ∀ v w', R v w' → wl P n z ops Q rest ((d, v) :: l) w') : wl P n z ops Q (⟨some d, op, ty, pos, af, none⟩ :: rest) l w := by
  intro a k hz ha
  refine wpList_plain rfl fun K hK => ?_
  simp only [Oper.wp, he a.eval ha.env, Oper.upon]
  exact Calls.mono (hc k) fun e w' ⟨v, e', w1, k', hw, hk', r⟩ => by subst e'; subst hw; exact hK _ _ (h v w1 r _ _ (Nat.le_trans hz hk') (ha.put hd v))
theorem s_call0 {f : FuncId} {args : Array Value} {R : Value → World → Prop} (he : Ec P l op f args) (hc : Ret P f args w R)
    (h : ∀ v w', R v w' → wl P n z ops Q rest l w') : wl P n z ops Q (⟨none, op, ty, pos, af, none⟩ :: rest) l w := by
  intro a k hz ha
  refine wpList_plain rfl fun K hK => ?_
  simp only [Oper.wp, he a.eval ha.env, Oper.upon]
  exact Calls.mono (hc k) fun e w' ⟨v, e', w1, k', hw, hk', r⟩ => by subst e'; subst hw; exact hK _ _ (h v w1 r _ _ (Nat.le_trans hz hk') ha)
/-- the slot of a guard -/
def gslot (ops : Array Oper) (j : Nat) : Option Nat := (ops[j]?).bind (·.dst)
theorem yields {j s : Nat} {b : Bool} (ha : Fits n a l) (hj : gslot ops j = some s) (hb : look l s = some (.bool b)) : yielded ops a.tmps j = some b := by
  have h := ha.slot s _ hb
  have h2 : a.tmps[s]? = some (.bool b) := by
    rw [Array.getD_eq_getD_getElem?] at h
    cases hx : a.tmps[s]? with
    | none => rw [hx] at h; simp [undef] at h
    | some x => rw [hx] at h; simp at h; rw [h]
  unfold gslot at hj
  simp [yielded, hj, h2]
theorem s_on {j s : Nat} {b : Bool} {dst : Option Nat} (hj : gslot ops j = some s) (hb : look l s = some (.bool b))
    (h : wl P n z ops Q (⟨dst, op, ty, pos, af, none⟩ :: rest) l w) : wl P n z ops Q (⟨dst, op, ty, pos, af, some (j, b)⟩ :: rest) l w := by
  intro a k hz ha
  have h1 := h a k hz ha
  have hy := yields ha hj hb
  unfold wpList at h1 ⊢
  simp only [Region.wanted, hy, beq_self_eq_true, if_true] at h1 ⊢
  exact h1
theorem s_off {j s : Nat} {b c : Bool} (hd : Nat.blt d n = true) (hj : gslot ops j = some s) (hb : look l s = some (.bool b)) (hbc : (b == c) = false)
    (h : wl P n z ops Q rest ((d, undef) :: l) w) : wl P n z ops Q (⟨some d, op, ty, pos, af, some (j, c)⟩ :: rest) l w := by
  intro a k hz ha
  have hy := yields ha hj hb
  have hw : (some b == some c) = false := hbc
  unfold wpList
  simp only [Region.wanted, hy, hw, Bool.false_eq_true, if_false]
  exact h _ _ hz (ha.put hd undef)
/-- .. nor one whose guard was not come to -/
theorem yields_undef {j s : Nat} (ha : Fits n a l) (hj : gslot ops j = some s) (hb : look l s = some undef) : yielded ops a.tmps j = none := by
  have h := ha.slot s _ hb
  unfold gslot at hj
  rw [Array.getD_eq_getD_getElem?] at h
  cases hx : a.tmps[s]? with
  | none => simp [yielded, hj, hx]
  | some x => rw [hx] at h; simp at h; subst h; simp [yielded, hj, hx, undef]
theorem s_offu {j s : Nat} {c : Bool} (hd : Nat.blt d n = true) (hj : gslot ops j = some s) (hb : look l s = some undef)
    (h : wl P n z ops Q rest ((d, undef) :: l) w) : wl P n z ops Q (⟨some d, op, ty, pos, af, some (j, c)⟩ :: rest) l w := by
  intro a k hz ha
  have hy := yields_undef ha hj hb
  have hw : ((none : Option Bool) == some c) = false := rfl
  unfold wpList
  simp only [Region.wanted, hy, hw, Bool.false_eq_true, if_false]
  exact h _ _ hz (ha.put hd undef)
theorem s_end (h : wx n z Q .normal l w) : wl P n z ops Q [] l w := fun a k hz ha => wpList_nil (h a k hz ha)

/-! ### Code -/
theorem q_reg {id : Nat} {os : List Oper} (h : wl P n z os.toArray Q os l w) : wq P n z (.region id os.toArray false) Q l w := fun a k hz ha => wp_region_lit (h a k hz ha)
theorem q_seq {x y : Code} (h : wq P n z x (Exit.then (y.wp P Q) Q) l w) : wq P n z (.seq x y) Q l w := fun a k hz ha => wp_seq (h a k hz ha)
theorem q_skip (h : wx n z Q .normal l w) : wq P n z .skip Q l w := fun a k hz ha => wp_skip (h a k hz ha)
theorem q_cond {c : Operand} {x y : Code} {b : Bool} (hc : ev l c = some (.bool b)) (ht : b = true → wq P n z x Q l w) (hf : b = false → wq P n z y Q l w) : wq P n z (.cond c x y) Q l w :=
  fun a k hz ha => wp_cond_split (ha.eval hc) (fun e => ht e a k hz ha) (fun e => hf e a k hz ha)
theorem q_yes {c : Operand} {x y : Code} (hc : ev l c = some (.bool true)) (h : wq P n z x Q l w) : wq P n z (.cond c x y) Q l w := fun a k hz ha => wp_cond_true (ha.eval hc) (h a k hz ha)
theorem q_no {c : Operand} {x y : Code} (hc : ev l c = some (.bool false)) (h : wq P n z y Q l w) : wq P n z (.cond c x y) Q l w := fun a k hz ha => wp_cond_false (ha.eval hc) (h a k hz ha)
theorem q_dec {c : Operand} {x y : Code} {p : Prop} [Decidable p] (hc : ev l c = some (.bool (decide p))) (ht : p → wq P n z x Q l w) (hf : ¬ p → wq P n z y Q l w) : wq P n z (.cond c x y) Q l w :=
  q_cond hc (fun e => ht (of_decide_eq_true e)) fun e => hf (of_decide_eq_false e)
theorem q_pos {c : Operand} {x y : Code} {p : Prop} [Decidable p] (hc : ev l c = some (.bool (decide p))) (hp : p) (h : wq P n z x Q l w) : wq P n z (.cond c x y) Q l w := q_dec hc (fun _ => h) fun k => absurd hp k
theorem q_neg {c : Operand} {x y : Code} {p : Prop} [Decidable p] (hc : ev l c = some (.bool (decide p))) (hp : ¬ p) (h : wq P n z y Q l w) : wq P n z (.cond c x y) Q l w := q_dec hc (fun k => absurd k hp) fun _ => h
theorem q_block {id : Nat} {c : Code} (h : wq P n z c (Exit.inBlock id Q) l w) : wq P n z (.block id c) Q l w := fun a k hz ha => wp_block (h a k hz ha)
theorem q_exit {id : Nat} (h : wx n z Q (.exit id) l w) : wq P n z (.exit id) Q l w := fun a k hz ha => wp_exit (h a k hz ha)
theorem q_ret (h : wx n z Q .ret l w) : wq P n z .ret Q l w := fun a k hz ha => wp_ret (h a k hz ha)
theorem x_then {y : Code} {Q0 : Exit → Act → World → Prop} (h : wq P n z y Q l w) : wx n z (Exit.then (y.wp P Q) Q0) .normal l w := h
theorem x_then_exit {K : Act → World → Prop} {id : Nat} (h : wx n z Q (.exit id) l w) : wx n z (Exit.then K Q) (.exit id) l w := h
theorem x_then_ret {K : Act → World → Prop} (h : wx n z Q .ret l w) : wx n z (Exit.then K Q) .ret l w := h
theorem x_block_ret {id : Nat} (h : wx n z Q .ret l w) : wx n z (Exit.inBlock id Q) .ret l w := h
theorem x_block_normal {id : Nat} (h : wx n z Q .normal l w) : wx n z (Exit.inBlock id Q) .normal l w := h
theorem x_block_exit {id : Nat} (h : wx n z Q .normal l w) : wx n z (Exit.inBlock id Q) (.exit id) l w := fun a k hz ha => by
  simp only [Exit.inBlock, if_true]; exact h a k hz ha
theorem x_block_past {id j : Nat} (hne : Nat.beq j id = false) (h : wx n z Q (.exit j) l w) : wx n z (Exit.inBlock id Q) (.exit j) l w := fun a k hz ha => by
  simp only [Exit.inBlock, Nat.ne_of_beq_eq_false hne, if_false]; exact h a k hz ha
theorem q_scope {c : Code} (h : wq P n z c (Exit.noGoto Q) l w) : wq P n z (.scope c) Q l w := fun a k hz ha => wp_scope_straight (h a k hz ha)
theorem q_label {i : Nat} (h : wx n z Q .normal l w) : wq P n z (.label i) Q l w := fun a k hz ha => wp_label (h a k hz ha)
theorem x_scope_ret (h : wx n z Q .ret l w) : wx n z (Exit.noGoto Q) .ret l w := h
theorem x_scope_normal (h : wx n z Q .normal l w) : wx n z (Exit.noGoto Q) .normal l w := h
theorem x_scope_exit {id : Nat} (h : wx n z Q (.exit id) l w) : wx n z (Exit.noGoto Q) (.exit id) l w := h
/-- two ways that meet -/
theorem q_join {c y : Code} (r : Fr) (w1 : World) (h : wq P n z c (Exit.then (fun a' w' => ∃ k, w' = dn w1 k ∧ z ≤ k ∧ Fits n a' r) Q) l w) (k : wq P n z y Q r w1) : wq P n z c (Exit.then (y.wp P Q) Q) l w := fun a j hj ha =>
  wp_mono (h a j hj ha) fun e a' w' hq => by
    cases e with
    | normal =>
      obtain ⟨q, rfl, hq', hf⟩ := hq
      exact k a' q hq' hf
    | _ => exact hq
theorem x_join {Q0 : Exit → Act → World → Prop} {r : Fr} (hc : Cov l r) : wx n z (Exit.then (fun a' w' => ∃ k, w' = dn w k ∧ z ≤ k ∧ Fits n a' r) Q0) .normal l w := fun a k hz ha => ⟨k, rfl, hz, ha.cov hc⟩
/-- forget slots -/
theorem q_cov {r : Fr} {c : Code} (hc : Cov l r) (h : wq P n z c Q r w) : wq P n z c Q l w := fun a k hz ha => h a k hz (ha.cov hc)
theorem x_cov {r : Fr} {e : Exit} (hc : Cov l r) (h : wx n z Q e r w) : wx n z Q e l w := fun a k hz ha => h a k hz (ha.cov hc)
/-- a loop: its states, the frame and the world of each, a measure -/
theorem q_loop {α : Type} {c : Code} (S : α → Fr) (W : α → World → Prop) (μ : α → Nat) (x₀ : α) (hc : Cov l (S x₀)) (hw : W x₀ w)
    (round : ∀ x w, W x w → wq P n z c (Exit.then (fun a' w' => ∃ y w1 k, w' = dn w1 k ∧ z ≤ k ∧ Fits n a' (S y) ∧ W y w1 ∧ μ y < μ x) Q) (S x) w) : wq P n z (.loop c) Q l w := by
  intro a j hj ha b k cs
  have main : ∀ (m : Nat) (x : α) (a : Act) (w : World) (j : Nat), μ x = m → z ≤ j → Fits n a (S x) → W x w →
      ∃ e a' w', Q e a' w' ∧ Arrives P (lone (b.at a (.code c :: .inLoop c :: k)) cs (dn w j)) b k cs e a' w' := by
    intro m
    induction m using Nat.strongRecOn with
    | _ m ih =>
      intro x a w j hm hj hf hW
      obtain ⟨e, a₁, w₁, hq, harr⟩ := round x w hW a j hj hf b (.inLoop c :: k) cs
      cases e with
      | normal =>
        obtain ⟨y, w2, j2, hw2, hj2, hf₁, hW₁, hlt⟩ := hq
        subst hw2
        obtain ⟨e₂, a₂, w₂, hq₂, harr₂⟩ := ih (μ y) (hm ▸ hlt) y a₁ w2 j2 rfl hj2 hf₁ hW₁
        exact ⟨e₂, a₂, w₂, hq₂, .of_steps (Steps.trans harr (.one step_inLoop)) harr₂⟩
      | exit id => exact ⟨_, a₁, w₁, hq, .pass (x := .inLoop c) rfl (fun _ _ => .inl (by simp)) harr⟩
      | goto l => exact ⟨_, a₁, w₁, hq, .pass (x := .inLoop c) rfl (fun _ _ => .inl (by simp)) harr⟩
      | ret => exact ⟨_, a₁, w₁, hq, .pass (x := .inLoop c) rfl (fun _ _ => .inl (by simp)) harr⟩
      | panic ch => exact ⟨_, a₁, w₁, hq, .pass (x := .inLoop c) rfl (fun _ _ => .inl (by simp)) harr⟩
      | outgrown => exact ⟨_, a₁, w₁, hq, .pass (x := .inLoop c) rfl (fun _ _ => .inl (by simp)) harr⟩
  obtain ⟨e, a', w', hq, harr⟩ := main (μ x₀) x₀ a w j rfl hj (ha.cov hc) hw
  exact ⟨e, a', w', hq, .of_steps (.one step_loop) harr⟩
/-- a round's end -/
theorem x_again {α : Type} {S : α → Fr} {W : α → World → Prop} {μ : α → Nat} {x : α} (y : α) (hc : Cov l (S y)) (hw : W y w) (hμ : μ y < μ x) :
    wx n z (Exit.then (fun a' w' => ∃ y w1 k, w' = dn w1 k ∧ z ≤ k ∧ Fits n a' (S y) ∧ W y w1 ∧ μ y < μ x) Q) .normal l w := fun a k hz ha => ⟨y, w, k, rfl, hz, ha.cov hc, hw, hμ⟩

/-! ### A function -/
def args0 : List Value → Nat → Fr
  | [], _ => []
  | v :: vs, i => (i, v) :: args0 vs (i + 1)
theorem look_args {vs : List Value} : ∀ {i t : Nat} {v : Value}, look (args0 vs i) t = some v → ∃ j, t = i + j ∧ vs[j]? = some v := by
  induction vs with
  | nil => intro i t v h; simp [args0, look] at h
  | cons u vs ih =>
    intro i t v h
    simp only [args0, look] at h
    cases he : Nat.beq i t with
    | true =>
      have := Nat.eq_of_beq_eq_true he
      simp only [he, cond_true, Option.some.injEq] at h
      exact ⟨0, by omega, by simp [h]⟩
    | false =>
      simp only [he, cond_false] at h
      obtain ⟨j, hj, hv⟩ := ih h
      exact ⟨j + 1, by omega, by simpa using hv⟩
theorem ret_of {f : FuncId} {fn : Func} {c : Code} {vs : List Value} {R : Value → World → Prop} (hf : P.funcs[f]? = some fn) (hb : fn.body = some c) (hn : fn.ntmps = n) (hle : Nat.ble vs.length n = true)
    (h : ∀ z, wq P n z c (bodyPost P fn (rp z R)) (args0 vs 0) w) : Ret P f vs.toArray w R := by
  have hle' : vs.length ≤ n := Nat.le_of_ble_eq_true hle
  refine fun k => calls_of_wp hf hb (h k _ k (Nat.le_refl _) ⟨?_, rfl, fun t v ht => ?_⟩)
  · simp [hn]; omega
  · obtain ⟨j, rfl, hj⟩ := look_args ht
    have hlt : j < vs.length := (List.getElem?_eq_some_iff.1 hj).1
    rw [Array.getD_eq_getD_getElem?, Nat.zero_add, Array.getElem?_append_left (by simpa using hlt)]
    simp [hj]
/-- one result, in a slot -/
theorem x_ret1 {fn : Func} {R : Value → World → Prop} {t : Nat} {e : Exit} (he : e = .ret ∨ e = .normal) (hr : fn.results = #[.tmp t]) (hv : look l t = some v) (h : R v w) : wx n z (bodyPost P fn (rp z R)) e l w := fun a k hz ha => by
  have h1 : (results fn a.tmps).run P (dn w k) = .ok v (dn w k) := by rw [results_tmp hr, ha.slot t v hv]
  rcases he with rfl | rfl <;> exact ⟨ha.defers, v, h1, v, rfl, w, k, rfl, hz, h⟩
theorem x_ret2 {fn : Func} {R : Value → World → Prop} {t u : Nat} {v2 : Value} {e : Exit} (he : e = .ret ∨ e = .normal) (hr : fn.results = #[.tmp t, .tmp u]) (hv : look l t = some v) (hu : look l u = some v2) (h : R (.tuple #[v, v2]) w) :
    wx n z (bodyPost P fn (rp z R)) e l w := fun a k hz ha => by
  have h1 : (results fn a.tmps).run P (dn w k) = .ok (.tuple #[v, v2]) (dn w k) := by rw [results_tmp2 hr, ha.slot t v hv, ha.slot u v2 hu]
  rcases he with rfl | rfl <;> exact ⟨ha.defers, _, h1, _, rfl, w, k, rfl, hz, h⟩
theorem x_ret0 {fn : Func} {R : Value → World → Prop} {e : Exit} (he : e = .ret ∨ e = .normal) (hr : fn.results = #[]) (h : R (.tuple #[]) w) : wx n z (bodyPost P fn (rp z R)) e l w := fun a k hz ha => by
  rcases he with rfl | rfl <;> exact ⟨ha.defers, _, results_none hr _ _ _, _, rfl, w, k, rfl, hz, h⟩
end
end Go.Proofs.Ytogfllhbgkeinaa.Eng
