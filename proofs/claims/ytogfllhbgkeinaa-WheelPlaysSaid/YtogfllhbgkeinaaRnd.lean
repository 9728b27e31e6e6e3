/-
  The engine once more, for frames that may be a round of a range over a function, or bear deferred calls (a mark): the same rules over the kit's fenced walk with the fence that lets everything in.
-/
import Derived.Test.YtogfllhbgkeinaaEq
import Derived.RangeFuncLeaves
import Derived.RangeFuncSeq
set_option linter.unusedVariables false
set_option linter.unusedSimpArgs false
namespace Go.Proofs.Ytogfllhbgkeinaa.Eng
open Go.RowKit Base

def FR (ro : Option Nat) : Fence := { fn := fun _ => True, depth := none, alive := false, round := ro }
structure FitsD (n : Nat) (D : List Deferred) (a : Act) (l : Fr) : Prop where
  size : a.tmps.size = n
  defers : a.defers = D
  slot : ∀ t v, look l t = some v → a.tmps.getD t undef = v
theorem FitsD.bare {n : Nat} {D : List Deferred} {a : Act} {l : Fr} (h : FitsD n D a l) : Fits n { a with defers := [] } l := ⟨h.size, rfl, h.slot⟩
theorem FitsD.env {n : Nat} {D : List Deferred} {a : Act} {l : Fr} (h : FitsD n D a l) : Env a.eval l := h.bare.env
theorem FitsD.eval {n : Nat} {D : List Deferred} {a : Act} {l : Fr} (h : FitsD n D a l) {o : Operand} {v : Value} (hv : ev l o = some v) : a.eval o = v := h.bare.eval hv
theorem FitsD.put {n : Nat} {D : List Deferred} {a : Act} {l : Fr} {d : Nat} (h : FitsD n D a l) (hd : Nat.blt d n = true) (v : Value) : FitsD n D (a.put (some d) v) ((d, v) :: l) := by
  have := h.bare.put hd v
  exact ⟨this.size, h.defers, this.slot⟩
theorem FitsD.cov {n : Nat} {D : List Deferred} {a : Act} {l r : Fr} (h : FitsD n D a l) (c : Cov l r) : FitsD n D a r := ⟨h.size, h.defers, fun t v ht => h.slot t v (c.look ht)⟩
def isDef : Op → Bool
  | .defer _ => true
  | _ => false
theorem not_def {op : Op} (h : isDef op = false) : ∀ c, op ≠ .defer c := fun c e => by subst e; cases h

variable {P : Program} {n z : Nat} {ro : Option Nat} {D : List Deferred} {l : Fr} {w w' : World}
section
variable {ops : Array Oper} {Q : Exit → Act → World → Prop} {rest : List Oper} {op : Op} {d ty : Nat} {pos : String} {af : Array Edge} {v : Value}
def iwl (P : Program) (n z : Nat) (ro : Option Nat) (D : List Deferred) (ops : Array Oper) (Q : Exit → Act → World → Prop) (os : List Oper) (l : Fr) (w : World) : Prop :=
  ∀ a k, z ≤ k → FitsD n D a l → wpListIn (FR ro) 0 P ops Q os a (dn w k)
def iwq (P : Program) (n z : Nat) (ro : Option Nat) (D : List Deferred) (c : Code) (Q : Exit → Act → World → Prop) (l : Fr) (w : World) : Prop :=
  ∀ a k, z ≤ k → FitsD n D a l → c.wpIn (FR ro) 0 P Q a (dn w k)
def iwx (n z : Nat) (D : List Deferred) (Q : Exit → Act → World → Prop) (e : Exit) (l : Fr) (w : World) : Prop := ∀ a k, z ≤ k → FitsD n D a l → Q e a (dn w k)

theorem is_val (hd : Nat.blt d n = true) (hf : isDef op = false) (he : Ev P l op w v w') (h : iwl P n z ro D ops Q rest ((d, v) :: l) w') : iwl P n z ro D ops Q (⟨some d, op, ty, pos, af, none⟩ :: rest) l w := by
  intro a k hz ha
  refine wpListIn_plain rfl fun K hK => ⟨fun _ _ => trivial, ?_⟩
  obtain ⟨k', hk', he'⟩ := he a.eval ha.env (some d) ty pos af none k
  rw [Oper.semAt_eq _ _ _ (not_def hf), he']
  exact hK _ _ (h _ _ (Nat.le_trans hz hk') (ha.put hd v))
theorem is_get (hd : Nat.blt d n = true) (hf : isDef op = false) (he : Eg P l op w v) (h : iwl P n z ro D ops Q rest ((d, v) :: l) w) : iwl P n z ro D ops Q (⟨some d, op, ty, pos, af, none⟩ :: rest) l w := is_val hd hf he.ev h
theorem is_val0 (hf : isDef op = false) (he : Ev P l op w v w') (h : iwl P n z ro D ops Q rest l w') : iwl P n z ro D ops Q (⟨none, op, ty, pos, af, none⟩ :: rest) l w := by
  intro a k hz ha
  refine wpListIn_plain rfl fun K hK => ⟨fun _ _ => trivial, ?_⟩
  obtain ⟨k', hk', he'⟩ := he a.eval ha.env none ty pos af none k
  rw [Oper.semAt_eq _ _ _ (not_def hf), he']
  exact hK _ _ (h _ _ (Nat.le_trans hz hk') ha)
theorem is_set (hf : isDef op = false) (he : Es P l op w w') (h : iwl P n z ro D ops Q rest l w') : iwl P n z ro D ops Q (⟨none, op, ty, pos, af, none⟩ :: rest) l w := by
  intro a k hz ha
  refine wpListIn_plain rfl fun K hK => ⟨fun _ _ => trivial, ?_⟩
  obtain ⟨k', hk', he'⟩ := he a.eval ha.env none ty pos af none k
  rw [Oper.semAt_eq _ _ _ (not_def hf), he']
  exact hK _ _ (h _ _ (Nat.le_trans hz hk') ha)
theorem is_rel {R : Value → World → Prop} (hd : Nat.blt d n = true) (hf : isDef op = false) (he : Er P l op w R) (h : ∀ v w', R v w' → iwl P n z ro D ops Q rest ((d, v) :: l) w') : iwl P n z ro D ops Q (⟨some d, op, ty, pos, af, none⟩ :: rest) l w := by
  intro a k hz ha
  refine wpListIn_plain rfl fun K hK => ⟨fun _ _ => trivial, ?_⟩
  obtain ⟨v, w', k', hk', he', hr⟩ := he a.eval ha.env (some d) ty pos af none k
  rw [Oper.semAt_eq _ _ _ (not_def hf), he']
  exact hK _ _ (h v w' hr _ _ (Nat.le_trans hz hk') (ha.put hd v))
theorem ret_in {f : FuncId} {args : Array Value} {R : Value → World → Prop} (h : Ret P f args w R) (k : Nat) : CallsIn (FR ro) 0 P f args (dn w k) (rp k R) := callsIn_wide.2 (h k)
theorem is_call {f : FuncId} {args : Array Value} {R : Value → World → Prop} (hd : Nat.blt d n = true) (hf : isDef op = false) (he : Ec P l op f args) (hc : Ret P f args w R)
    (h : ∀ v w', R v w' → iwl P n z ro D ops Q rest ((d, v) :: l) w') : iwl P n z ro D ops Q (⟨some d, op, ty, pos, af, none⟩ :: rest) l w := by
  intro a k hz ha
  refine wpListIn_plain rfl fun K hK => ⟨fun _ _ => trivial, ?_⟩
  rw [Oper.semAt_eq _ _ _ (not_def hf), he a.eval ha.env]
  refine ⟨fun h => (by cases h), (ret_in (ro := ro) hc k).mono fun e w' ⟨v, e', w1, k', hw, hk', r⟩ => ?_⟩
  subst e'; subst hw
  exact hK _ _ (h v w1 r _ _ (Nat.le_trans hz hk') (ha.put hd v))
theorem is_end (h : iwx n z D Q .normal l w) : iwl P n z ro D ops Q [] l w := fun a k hz ha => h a k hz ha
theorem yieldsD {j s : Nat} {b : Bool} {a : Act} (ha : FitsD n D a l) (hj : gslot ops j = some s) (hb : look l s = some (.bool b)) : yielded ops a.tmps j = some b := yields (a := { a with defers := [] }) ha.bare hj hb
theorem is_on {j s : Nat} {b : Bool} {dst : Option Nat} (hj : gslot ops j = some s) (hb : look l s = some (.bool b))
    (h : iwl P n z ro D ops Q (⟨dst, op, ty, pos, af, none⟩ :: rest) l w) : iwl P n z ro D ops Q (⟨dst, op, ty, pos, af, some (j, b)⟩ :: rest) l w := by
  intro a k hz ha
  have h1 := h a k hz ha
  have hy := yieldsD ha hj hb
  unfold wpListIn at h1 ⊢
  simp only [Region.wanted, hy, beq_self_eq_true, if_true] at h1 ⊢
  exact h1
theorem is_off {j s : Nat} {b c : Bool} (hd : Nat.blt d n = true) (hj : gslot ops j = some s) (hb : look l s = some (.bool b)) (hbc : (b == c) = false)
    (h : iwl P n z ro D ops Q rest ((d, undef) :: l) w) : iwl P n z ro D ops Q (⟨some d, op, ty, pos, af, some (j, c)⟩ :: rest) l w := by
  intro a k hz ha
  have hy := yieldsD ha hj hb
  have hw : (some b == some c) = false := hbc
  unfold wpListIn
  simp only [Region.wanted, hy, hw, Bool.false_eq_true, if_false]
  exact ⟨fun _ _ => trivial, h _ _ hz (ha.put hd undef)⟩

theorem is_offu {j s : Nat} {c : Bool} (hd : Nat.blt d n = true) (hj : gslot ops j = some s) (hb : look l s = some undef)
    (h : iwl P n z ro D ops Q rest ((d, undef) :: l) w) : iwl P n z ro D ops Q (⟨some d, op, ty, pos, af, some (j, c)⟩ :: rest) l w := by
  intro a k hz ha
  have hy : yielded ops a.tmps j = none := yields_undef (a := { a with defers := [] }) ha.bare hj hb
  have hw : ((none : Option Bool) == some c) = false := rfl
  unfold wpListIn
  simp only [Region.wanted, hy, hw, Bool.false_eq_true, if_false]
  exact ⟨fun _ _ => trivial, h _ _ hz (ha.put hd undef)⟩

theorem iq_reg {id : Nat} {os : List Oper} (h : iwl P n z ro D os.toArray Q os l w) : iwq P n z ro D (.region id os.toArray false) Q l w := fun a k hz ha => wpIn_region_lit (h a k hz ha)
theorem iq_seq {x y : Code} (h : iwq P n z ro D x (Exit.then (y.wpIn (FR ro) 0 P Q) Q) l w) : iwq P n z ro D (.seq x y) Q l w := fun a k hz ha => wpIn_seq (h a k hz ha)
theorem iq_skip (h : iwx n z D Q .normal l w) : iwq P n z ro D .skip Q l w := fun a k hz ha => wpIn_skip (h a k hz ha)
theorem iq_cond {c : Operand} {x y : Code} {b : Bool} (hc : ev l c = some (.bool b)) (ht : b = true → iwq P n z ro D x Q l w) (hf : b = false → iwq P n z ro D y Q l w) : iwq P n z ro D (.cond c x y) Q l w :=
  fun a k hz ha => wpIn_cond_split (ha.eval hc) (fun e => ht e a k hz ha) (fun e => hf e a k hz ha)
theorem iq_yes {c : Operand} {x y : Code} (hc : ev l c = some (.bool true)) (h : iwq P n z ro D x Q l w) : iwq P n z ro D (.cond c x y) Q l w := fun a k hz ha => wpIn_cond_true (ha.eval hc) (h a k hz ha)
theorem iq_no {c : Operand} {x y : Code} (hc : ev l c = some (.bool false)) (h : iwq P n z ro D y Q l w) : iwq P n z ro D (.cond c x y) Q l w := fun a k hz ha => wpIn_cond_false (ha.eval hc) (h a k hz ha)
theorem iq_dec {c : Operand} {x y : Code} {p : Prop} [Decidable p] (hc : ev l c = some (.bool (decide p))) (ht : p → iwq P n z ro D x Q l w) (hf : ¬ p → iwq P n z ro D y Q l w) : iwq P n z ro D (.cond c x y) Q l w :=
  iq_cond hc (fun e => ht (of_decide_eq_true e)) fun e => hf (of_decide_eq_false e)
theorem iq_block {id : Nat} {c : Code} (h : iwq P n z ro D c (Exit.inBlock id Q) l w) : iwq P n z ro D (.block id c) Q l w := fun a k hz ha => wpIn_block (h a k hz ha)
theorem iq_exit {id : Nat} (h : iwx n z D Q (.exit id) l w) : iwq P n z ro D (.exit id) Q l w := fun a k hz ha => wpIn_exit (h a k hz ha)
theorem iq_ret (h : iwx n z D Q .ret l w) : iwq P n z ro D .ret Q l w := fun a k hz ha => wpIn_ret (h a k hz ha)
theorem ix_then {y : Code} {Q0 : Exit → Act → World → Prop} (h : iwq P n z ro D y Q l w) : iwx n z D (Exit.then (y.wpIn (FR ro) 0 P Q) Q0) .normal l w := h
theorem ix_then_exit {K : Act → World → Prop} {id : Nat} (h : iwx n z D Q (.exit id) l w) : iwx n z D (Exit.then K Q) (.exit id) l w := h
theorem ix_then_ret {K : Act → World → Prop} (h : iwx n z D Q .ret l w) : iwx n z D (Exit.then K Q) .ret l w := h
theorem ix_block_ret {id : Nat} (h : iwx n z D Q .ret l w) : iwx n z D (Exit.inBlock id Q) .ret l w := h
theorem ix_block_normal {id : Nat} (h : iwx n z D Q .normal l w) : iwx n z D (Exit.inBlock id Q) .normal l w := h
theorem ix_block_exit {id : Nat} (h : iwx n z D Q .normal l w) : iwx n z D (Exit.inBlock id Q) (.exit id) l w := fun a k hz ha => by
  simp only [Exit.inBlock, if_true]; exact h a k hz ha
theorem ix_block_past {id j : Nat} (hne : Nat.beq j id = false) (h : iwx n z D Q (.exit j) l w) : iwx n z D (Exit.inBlock id Q) (.exit j) l w := fun a k hz ha => by
  simp only [Exit.inBlock, Nat.ne_of_beq_eq_false hne, if_false]; exact h a k hz ha
theorem iq_cov {r : Fr} {c : Code} (hc : Cov l r) (h : iwq P n z ro D c Q r w) : iwq P n z ro D c Q l w := fun a k hz ha => h a k hz (ha.cov hc)
/-- from the plain engine over to this one -/
theorem q_in {c : Code} (h : iwq P n z none [] c Q l w) : wq P n z c Q l w := fun a k hz ha => wpIn_wide.1 (h a k hz ⟨ha.size, ha.defers, ha.slot⟩)
end
end Go.Proofs.Ytogfllhbgkeinaa.Eng
