/-
  Ranges over functions: loops within the fenced engine; a call of yield and the round that it runs; the statement; how a function that holds such a loop ends.
-/
import Derived.Test.YtogfllhbgkeinaaMap
import Derived.Test.YtogfllhbgkeinaaRnd
import Derived.RangeFuncRecord
import Derived.OrdersIn
set_option linter.unusedVariables false
set_option linter.unusedSimpArgs false
namespace Go.Proofs.Ytogfllhbgkeinaa.Eng
open Go.RowKit Base
open Go.ChangeMaps (setBlock)

variable {P : Program} {n z : Nat} {ro : Option Nat} {D : List Deferred} {l : Fr} {w w' : World}

/-! ### 0. Regions of the plain engine, within a round or behind a mark -/
def markD (b : Nat) : Deferred := { target := .collected b, args := #[] }
/-- a way out that bears deferred calls -/
def Qd (D : List Deferred) (Q : Exit → Act → World → Prop) : Exit → Act → World → Prop := fun e a w => Q e { a with defers := D } w
class NL (Q : Exit → Act → World → Prop) : Prop where h : ∀ a w, ¬ Q .outgrown a w
instance {K : Act → World → Prop} {Q : Exit → Act → World → Prop} [q : NL Q] : NL (Exit.then K Q) := ⟨fun a w h => q.h a w h⟩
instance {Q : Exit → Act → World → Prop} [q : NL Q] : NL (Exit.noGoto Q) := ⟨fun a w h => q.h a w h⟩
instance {id : Nat} {Q : Exit → Act → World → Prop} [q : NL Q] : NL (Exit.inBlock id Q) := ⟨fun a w h => q.h a w h⟩
instance {D : List Deferred} {Q : Exit → Act → World → Prop} [q : NL Q] : NL (Qd D Q) := ⟨fun a w h => q.h _ w h⟩
instance {lp : Nat} {R : Ending → World → Prop} : NL (roundPost P lp R) := ⟨fun a w h => h⟩
instance {lp : Nat} {R : Ending → World → Prop} : NP (roundPost P lp R) := ⟨fun c a w h => h⟩
instance {D : List Deferred} {lp : Nat} {R : Ending → World → Prop} : NP (Qd D (roundPost P lp R)) := ⟨fun c a w h => h⟩
instance {fn : Func} {z : Nat} {R : Value → World → Prop} : NL (bodyPostM (FR none) 0 P fn (rp z R)) := ⟨fun a w h => by obtain ⟨v, h, _⟩ := h; cases h⟩
instance {fn : Func} {z : Nat} {R : Value → World → Prop} : NP (Qd [] (bodyPostM (FR none) 0 P fn (rp z R))) := ⟨fun c a w h => by obtain ⟨v, h, _⟩ := h; cases h⟩
instance {b : Nat} {fn : Func} {z : Nat} {R : Value → World → Prop} : NP (Qd [markD b] (bodyPostM (FR none) 0 P fn (rp z R))) := ⟨fun c a w h => by
  obtain ⟨_, ⟨r, w', _, _, v, h, _⟩ | ⟨_, fv, cap, f, args, h, _⟩⟩ := h
  · cases h
  · cases h⟩
instance {D : List Deferred} {K : Act → World → Prop} {Q : Exit → Act → World → Prop} [q : NP (Qd D Q)] : NP (Qd D (Exit.then K Q)) := ⟨fun c a w h => q.h c a w h⟩
instance {D : List Deferred} {Q : Exit → Act → World → Prop} [q : NP (Qd D Q)] : NP (Qd D (Exit.noGoto Q)) := ⟨fun c a w h => q.h c a w h⟩
instance {D : List Deferred} {id : Nat} {Q : Exit → Act → World → Prop} [q : NP (Qd D Q)] : NP (Qd D (Exit.inBlock id Q)) := ⟨fun c a w h => q.h c a w h⟩
theorem put_defers (a : Act) (D : List Deferred) (d : Option Nat) (v : Value) : ({ a with defers := D } : Act).put d v = { a.put d v with defers := D } := by cases d <;> rfl
theorem lift_op {o : Oper} {Q : Exit → Act → World → Prop} [q : NL Q] (hd : isDef o.op = false) {K : Act → World → Prop} {a : Act} (hdef : ∀ d, (∀ w w', (execOp a.eval o).run P w ≠ .ok (.defer d) w')) (h : o.wp P a w (fun a w => K { a with defers := D } w) (Qd D Q)) :
    o.wpIn (FR ro) 0 P { a with defers := D } w K Q := by
  refine ⟨fun _ _ => trivial, ?_⟩
  rw [Oper.semAt_eq _ _ _ (not_def hd)]
  have he : ({ a with defers := D } : Act).eval = a.eval := by funext x; cases x <;> rfl
  rw [he]
  unfold Oper.wp at h
  have hdd := fun d w' => hdef d w w'
  generalize (execOp a.eval o).run P w = r at h hdd
  cases r with
  | ok nx w' =>
    cases nx with
    | value v => simp only [Oper.upon, Oper.uponIn, put_defers] at h ⊢; exact h
    | skip => simp only [Oper.upon, Oper.uponIn, put_defers] at h ⊢; exact h
    | defer d => exact absurd rfl (hdd d w')
    | enter f args =>
      simp only [Oper.upon, Oper.uponIn] at h ⊢
      refine ⟨fun h => (by cases h), (callsIn_wide (n := 0 - 1).2 h).mono fun e w'' hr => ?_⟩
      cases e with
      | returned v => show K (Act.put _ _ _) _; rw [put_defers]; exact hr
      | panicked ch => exact hr
      | outgrown => obtain ⟨a1, w1, hq⟩ := hr; exact (q.h _ _ hq).elim
    | row r args =>
      simp only [Oper.upon, Oper.uponIn] at h ⊢
      refine ⟨fun h => (by cases h), fun c cs _ => ?_⟩
      obtain ⟨v, w'', hr, hs⟩ := h c cs
      exact ⟨v, w'', by show K (Act.put _ _ _) _; rw [put_defers]; exact hr, stepsIn_wide.2 hs⟩
    | _ => exact h.elim
  | halt x w' => cases x <;> first | exact h | exact h.elim
/-- operations that push no deferred call -/
def tame : Op → Bool
  | .move _ | .assign _ | .pick .. | .alloc _ | .box .. | .build .. | .buildSlice .. | .load .. | .store .. | .binOp .. | .unOp .. | .slice .. | .fieldAddr .. | .field .. | .indexAddr .. | .index .. | .lookup .. | .extract .. | .makeFunc .. => true
  | .call c => match c.callee with
    | .builtin .append | .builtin .len | .builtin .min | .builtin .max => true
    | _ => false
  | _ => false
theorem run_v {s : Sem Value} {d : Deferred} {w' : World} : (do pure (Next.value (← s)) : Sem Next).run P w ≠ .ok (.defer d) w' := by
  simp only [Sem.run_bind]
  cases s.run P w <;> simp [Result.andThen]
theorem run_u {s : Sem Unit} {d : Deferred} {w' : World} : (do s; pure Next.skip : Sem Next).run P w ≠ .ok (.defer d) w' := by
  simp only [Sem.run_bind]
  cases s.run P w <;> simp [Result.andThen]
theorem no_defer {o : Oper} (hd : tame o.op = true) (ρ : Operand → Value) (d : Deferred) (w w' : World) : (execOp ρ o).run P w ≠ .ok (.defer d) w' := by
  obtain ⟨dst, op, ty, pos, af, g⟩ := o
  cases op <;> simp only [tame, Bool.false_eq_true] at hd <;> try (first | exact run_v | exact run_u | (simp only [execOp, Sem.run_pure]; intro h; injection h with h1 h2; cases h1; done) | (simp only [execOp, Sem.run_bind]; generalize (asBool _).run P w = r; cases r <;> simp [Result.andThen]; done))
  rename_i c
  obtain ⟨ce, as, ats⟩ := c
  cases ce <;> simp only [Bool.false_eq_true] at hd
  rename_i b
  cases b <;> simp only [Bool.false_eq_true] at hd <;> (simp only [execOp, resolve, invoke, builtin, Sem.run_bind, Sem.run_pure, Result.andThen_ok]; simp only [Result.andThen]; split <;> simp)
def NoDef (P : Program) (o : Oper) : Prop := isDef o.op = false ∧ ∀ (a : Act) d w w', (execOp a.eval o).run P w ≠ .ok (.defer d) w'
def NDs (P : Program) : List Oper → Prop
  | [] => True
  | o :: os => NoDef P o ∧ NDs P os
theorem NDs.mem {os : List Oper} : ∀ {o : Oper}, NDs P os → o ∈ os → NoDef P o := by
  induction os with
  | nil => intro o _ hm; cases hm
  | cons x os ih =>
    intro o h hm
    rcases List.mem_cons.1 hm with e | hm
    · rw [e]; exact h.1
    · exact ih h.2 hm
theorem nd_t {o : Oper} {os : List Oper} (h : (tame o.op && !isDef o.op) = true) (k : NDs P os) : NDs P (o :: os) := by
  simp only [Bool.and_eq_true, Bool.not_eq_true'] at h
  exact ⟨⟨h.2, fun a => no_defer h.1 a.eval⟩, k⟩
theorem nd_c {f : FuncId} [c : TFn P f] {d : Option Nat} {xs : Array Operand} {at_ : Array TypeId} {ty : Nat} {pos : String} {af : Array Edge} {g : Option (Nat × Bool)} {os : List Oper} (k : NDs P os) : NDs P (⟨d, .call ⟨.value (.func f), xs, at_⟩, ty, pos, af, g⟩ :: os) :=
  ⟨⟨rfl, fun a d w w' h => by
    have h1 := c.h (xs.map a.eval) w
    have e : a.eval (.func f) = .func (.func f) #[] #[] := rfl
    simp [execOp, resolve, e, Deferred.ofValue, invoke, Result.andThen, h1] at h⟩, k⟩
theorem lift_list {ops : Array Oper} {Q : Exit → Act → World → Prop} [q : NL Q] : ∀ (os : List Oper) (a : Act) (w : World), NDs P os → wpList P ops (Qd D Q) os a w → wpListIn (FR ro) 0 P ops Q os { a with defers := D } w
  | [], a, w, _, h => h
  | o :: os, a, w, ht, h => by
    unfold wpList at h
    unfold wpListIn
    have e : ({ a with defers := D } : Act).tmps = a.tmps := rfl
    rw [e]
    split
    · rename_i hw
      rw [if_pos hw] at h
      rcases h with h | ⟨_, a1, w1, h⟩
      · exact lift_op ht.1.1 (fun d w w' => ht.1.2 _ d w w') (Oper.wp_mono (fun a w h => lift_list os a w ht.2 h) h)
      · exact (q.h _ _ h).elim
    · rename_i hw
      rw [if_neg hw] at h
      refine ⟨fun _ _ => trivial, ?_⟩
      rw [put_defers]
      exact lift_list os _ _ ht.2 h
theorem lift_any {ops : Array Oper} {Q : Exit → Act → World → Prop} [q : NL Q] (ht : NDs P ops.toList) : ∀ (fuel : Nat) (listed : Array Bool) (a : Act) (w : World), wpAny P .any ops (Qd D Q) fuel listed a w → wpAnyIn (FR ro) 0 P .any ops Q fuel listed { a with defers := D } w
  | 0, listed, a, w, h => h
  | fuel + 1, listed, a, w, h => by
    refine ⟨h.1, fun i hi => ?_⟩
    have h1 := h.2 i hi
    unfold wpOp at h1
    unfold wpOpIn
    cases ho : ops[i]? with
    | none => rw [ho] at h1; exact lift_any ht fuel _ a w h1
    | some o =>
      rw [ho] at h1
      simp only at h1 ⊢
      have hm : o ∈ ops.toList := by rw [Array.mem_toList_iff]; exact Array.mem_of_getElem? ho
      have ht1 := ht.mem hm
      have e : ({ a with defers := D } : Act).tmps = a.tmps := rfl
      rw [e]
      split
      · rename_i hw
        rw [if_pos hw] at h1
        rcases h1 with h1 | ⟨_, a1, w1, h1⟩
        · exact lift_op ht1.1 (fun d w w' => ht1.2 _ d w w') (Oper.wp_mono (fun a w h => lift_any ht fuel _ a w h) h1)
        · exact (q.h _ _ h1).elim
      · rename_i hw
        rw [if_neg hw] at h1
        refine ⟨fun _ _ => trivial, ?_⟩
        rw [put_defers]
        exact lift_any ht fuel _ _ _ h1
/-- a region, by the plain engine's rules -/
theorem iq_lift {id : Nat} {os : List Oper} {Q : Exit → Act → World → Prop} [q : NL Q] (ht : NDs P os) (h : wl P n z os.toArray (Qd D Q) os l w) : iwq P n z ro D (.region id os.toArray false) Q l w := fun a k hz ha => by
  have h1 := lift_list (ro := ro) (D := D) os { a with defers := [] } (dn w k) ht (h _ k hz ha.bare)
  have e : ({ ({ a with defers := [] } : Act) with defers := D } : Act) = a := by rw [← ha.defers]
  rw [e] at h1
  exact wpIn_region_lit h1
theorem iq_draw [t : TWide P] {id : Nat} {os : List Oper} {Q : Exit → Act → World → Prop} [q : NL Q] (S : World → Prop) (H : List Nat) (ht : NDs P os) (h : da P n z os.toArray (Qd D Q) S H os.length (Array.replicate os.length false) l w) : iwq P n z ro D (.region id os.toArray true) Q l w := fun a k hz ha => by
  have h0 := any_of _ _ _ _ (h { a with defers := [] } (k + 1) (Nat.le_succ_of_le hz) ha.bare (fun j o _ hl => by simp [Array.getD_eq_getD_getElem?, Array.getElem?_replicate] at hl; split at hl <;> simp at hl))
  have h1 := lift_any (ro := ro) (D := D) (by simpa using ht) _ _ _ _ h0
  have e : ({ ({ a with defers := [] } : Act) with defers := D } : Act) = a := by rw [← ha.defers]
  rw [e] at h1
  refine wpIn_region_any t.h ?_
  rw [List.size_toArray]; exact h1
theorem x_bare {Q : Exit → Act → World → Prop} {e : Exit} (h : iwx n z D Q e l w) : wx n z (Qd D Q) e l w := fun a k hz ha => h _ k hz ⟨ha.size, rfl, ha.slot⟩

/-! ### 1. Loops -/
theorem least_of {p : Nat → Prop} (h : ∃ m, p m) : ∃ m, p m ∧ ∀ k, p k → m ≤ k := by
  obtain ⟨m, hm⟩ := h
  induction m using Nat.strongRecOn with
  | _ m ih =>
    by_cases g : ∃ k, k < m ∧ p k
    · obtain ⟨k, hk, hp⟩ := g; exact ih k hk hp
    · exact ⟨m, hm, fun k hp => by
        rcases Nat.lt_or_ge k m with h | h
        · exact absurd ⟨k, h, hp⟩ g
        · exact h⟩
theorem iq_loop {α : Type} {c : Code} {Q : Exit → Act → World → Prop} (S : α → Fr) (W : α → World → Prop) (μ : α → Nat) (x₀ : α) (hc : Cov l (S x₀)) (hw : W x₀ w)
    (round : ∀ x w, W x w → iwq P n z ro D c (Exit.then (fun a' w' => ∃ y w1 k, w' = dn w1 k ∧ z ≤ k ∧ FitsD n D a' (S y) ∧ W y w1 ∧ μ y < μ x) Q) (S x) w) : iwq P n z ro D (.loop c) Q l w := by
  intro a j hj ha
  obtain ⟨I, hI⟩ : ∃ I : Nat → Act → World → Prop, I = fun m a' w' => ∃ y w1 k, w' = dn w1 k ∧ z ≤ k ∧ FitsD n D a' (S y) ∧ W y w1 ∧ μ y = m := ⟨_, rfl⟩
  obtain ⟨M, hM⟩ : ∃ M : Act → World → Nat, ∀ a w, (∃ m, I m a w) → I (M a w) a w ∧ ∀ k, I k a w → M a w ≤ k := by
    have : ∀ p : Act × World, ∃ m, (∃ m, I m p.1 p.2) → I m p.1 p.2 ∧ ∀ k, I k p.1 p.2 → m ≤ k := fun p => by
      by_cases h : ∃ m, I m p.1 p.2
      · obtain ⟨m, h1, h2⟩ := least_of h; exact ⟨m, fun _ => ⟨h1, h2⟩⟩
      · exact ⟨0, fun g => absurd g h⟩
    exact ⟨fun a w => Classical.choose (this (a, w)), fun a w h => Classical.choose_spec (this (a, w)) h⟩
  refine wpIn_loop (fun a w => ∃ m, I m a w) M ⟨μ x₀, by rw [hI]; exact ⟨x₀, w, j, rfl, hj, ha.cov hc, hw, rfl⟩⟩ fun a w h => ?_
  obtain ⟨h1, h2⟩ := hM a w h
  have h3 := h1
  rw [hI] at h3
  obtain ⟨y, w1, k, rfl, hk, hf, hW, hμ⟩ := h3
  refine wpIn_mono (round y w1 hW a k hk hf) fun e a' w' hq => ?_
  cases e with
  | normal =>
    obtain ⟨y', w2, k2, rfl, hk2, hf2, hW2, hlt⟩ := hq
    have g : I (μ y') a' (dn w2 k2) := by rw [hI]; exact ⟨y', w2, k2, rfl, hk2, hf2, hW2, rfl⟩
    have := (hM a' (dn w2 k2) ⟨_, g⟩).2 _ g
    exact ⟨⟨_, g⟩, by omega⟩
  | _ => exact hq
theorem ix_again {α : Type} {Q : Exit → Act → World → Prop} {S : α → Fr} {W : α → World → Prop} {μ : α → Nat} {x : α} (y : α) (hc : Cov l (S y)) (hw : W y w) (hμ : μ y < μ x) :
    iwx n z D (Exit.then (fun a' w' => ∃ y w1 k, w' = dn w1 k ∧ z ≤ k ∧ FitsD n D a' (S y) ∧ W y w1 ∧ μ y < μ x) Q) .normal l w := fun a k hz ha => ⟨y, w, k, rfl, hz, ha.cov hc, hw, hμ⟩

/-! ### 1b. A cut: what holds between two pieces of code -/
theorem q_mid {c y : Code} {Q : Exit → Act → World → Prop} (r : Fr) (K : World → Prop) (h : wq P n z c (Exit.then (fun a' w' => ∃ w1 k, w' = dn w1 k ∧ z ≤ k ∧ Fits n a' r ∧ K w1) Q) l w) (k : ∀ w1, K w1 → wq P n z y Q r w1) : wq P n z c (Exit.then (y.wp P Q) Q) l w := fun a j hj ha =>
  wp_mono (h a j hj ha) fun e a' w' hq => by
    cases e with
    | normal =>
      obtain ⟨w1, q, rfl, hq', hf, hK⟩ := hq
      exact k w1 hK a' q hq' hf
    | _ => exact hq
theorem x_mid {Q0 : Exit → Act → World → Prop} {r : Fr} {K : World → Prop} (hc : Cov l r) (hK : K w) : wx n z (Exit.then (fun a' w' => ∃ w1 k, w' = dn w1 k ∧ z ≤ k ∧ Fits n a' r ∧ K w1) Q0) .normal l w := fun a k hz ha => ⟨w, k, rfl, hz, ha.cov hc, hK⟩
theorem iq_mid {c y : Code} {Q : Exit → Act → World → Prop} (D' : List Deferred) (r : Fr) (K : World → Prop) (h : iwq P n z ro D c (Exit.then (fun a' w' => ∃ w1 k, w' = dn w1 k ∧ z ≤ k ∧ FitsD n D' a' r ∧ K w1) Q) l w) (k : ∀ w1, K w1 → iwq P n z ro D' y Q r w1) : iwq P n z ro D c (Exit.then (y.wpIn (FR ro) 0 P Q) Q) l w := fun a j hj ha =>
  wpIn_mono (h a j hj ha) fun e a' w' hq => by
    cases e with
    | normal =>
      obtain ⟨w1, q, rfl, hq', hf, hK⟩ := hq
      exact k w1 hK a' q hq' hf
    | _ => exact hq
theorem ix_mid {Q0 : Exit → Act → World → Prop} {r : Fr} {K : World → Prop} (hc : Cov l r) (hK : K w) : iwx n z D (Exit.then (fun a' w' => ∃ w1 k, w' = dn w1 k ∧ z ≤ k ∧ FitsD n D a' r ∧ K w1) Q0) .normal l w := fun a k hz ha => ⟨w, k, rfl, hz, ha.cov hc, hK⟩

/-! ### 2. A call of yield -/
def Yl (P : Program) (lp : Nat) (args : Array Value) (w : World) (R : Value → World → Prop) : Prop :=
  ∀ k, ∃ fn tmps as bd, (Instr.yield lp args).run P (dn w k) = .ok (.round lp fn tmps as bd) (dn w k) ∧ RoundIn (FR none) 0 P lp fn tmps as bd (dn w k) (rp k R)
def Ey (P : Program) (l : Fr) (op : Op) (lp : Nat) (args : Array Value) : Prop := ∀ ρ, Env ρ l → ∀ d t p af g w, (execOp ρ ⟨d, op, t, p, af, g⟩).run P w = (Instr.yield lp args).run P w
theorem Yl.mono {lp : Nat} {args : Array Value} {R R' : Value → World → Prop} (h : Yl P lp args w R) (k : ∀ v w', R v w' → R' v w') : Yl P lp args w R' := fun j => by
  obtain ⟨fn, tmps, as, bd, h1, h2⟩ := h j
  exact ⟨fn, tmps, as, bd, h1, h2.mono fun _ _ ⟨v, e, w1, k', hw, hk, r⟩ => ⟨v, e, w1, k', hw, hk, k v _ r⟩⟩
theorem e_yield {fo : Operand} {lp : Nat} {xs : List Operand} {vs : List Value} {at_ : Array TypeId} (hf : ev l fo = some (.func (.yield lp) #[] #[])) (hs : evs l xs = some vs) :
    Ey P l (.call ⟨.value fo, xs.toArray, at_⟩) lp vs.toArray := fun ρ h d t p af g w => by
  have h1 := h.all hs
  simp [execOp, resolve, h fo _ hf, Deferred.ofValue, invoke, Result.andThen, h1]
section
variable {ops : Array Oper} {Q : Exit → Act → World → Prop} {rest : List Oper} {op : Op} {d ty : Nat} {pos : String} {af : Array Edge}
theorem is_yield {lp : Nat} {args : Array Value} {R : Value → World → Prop} (hd : Nat.blt d n = true) (hf : isDef op = false) (he : Ey P l op lp args) (hc : Yl P lp args w R)
    (h : ∀ v w', R v w' → iwl P n z none D ops Q rest ((d, v) :: l) w') : iwl P n z none D ops Q (⟨some d, op, ty, pos, af, none⟩ :: rest) l w := by
  intro a k hz ha
  refine wpListIn_plain rfl fun K hK => ⟨fun _ _ => trivial, ?_⟩
  obtain ⟨fn, tmps, as, bd, hy, hr⟩ := hc k
  rw [Oper.semAt_eq _ _ _ (not_def hf), he a.eval ha.env, hy]
  refine ⟨fun h => (by cases h), hr.mono fun e w' ⟨v, e', w1, k', hw, hk', r⟩ => ?_⟩
  subst e'; subst hw
  exact hK _ _ (h v w1 r _ _ (Nat.le_trans hz hk') (ha.put hd v))
end

/-! ### 3. The round -/
def zipFr : List Nat → List Value → Fr → Fr
  | p :: ps, v :: vs, l => zipFr ps vs ((p, v) :: l)
  | _, _, l => l
structure FitsT (n : Nat) (tmps : Array Value) (l : Fr) : Prop where
  size : tmps.size = n
  slot : ∀ t v, look l t = some v → tmps.getD t undef = v
theorem fits_zip : ∀ (ps : List Nat) (vs : List Value) (tmps : Array Value) (l : Fr), FitsT n tmps l → (ps.all fun p => Nat.blt p n) = true →
    FitsT n ((ps.zip vs).foldl (fun t (p : Nat × Value) => t.setIfInBounds p.1 p.2) tmps) (zipFr ps vs l)
  | [], _, _, _, h, _ => h
  | _ :: _, [], _, _, h, _ => h
  | p :: ps, v :: vs, tmps, l, h, hp => by
    simp only [List.all_cons, Bool.and_eq_true] at hp
    refine fits_zip ps vs _ _ ?_ hp.2
    have := Fits.put (a := { tmps := tmps, defers := [] }) ⟨h.size, rfl, h.slot⟩ hp.1 v
    exact ⟨this.size, this.slot⟩
/-- what a round does from its frame on -/
def roundQ (P : Program) (lp : Nat) (body : Code) (z : Nat) (R : Value → World → Prop) : Exit → Act → World → Prop :=
  Exit.then (fun a1 w1 => ∃ w2, (Instr.beginRound lp).run P w1 = .ok () w2 ∧ body.wpIn (FR (some lp)) 0 P (roundPost P lp (rp z R)) a1 w2) fun _ _ _ => False
theorem yl_of {lp : Nat} {r : Loop} {ps : List Nat} {vs : List Value} {R : Value → World → Prop} (hl : w.heap[lp]? = some (.loop r)) (hps : r.params = ps.toArray) (hlen : vs.length = ps.length) (hfit : FitsT n r.tmps l) (hlt : (ps.all fun p => Nat.blt p n) = true)
    (h : ∀ z, iwq P n z (some lp) [] r.assign (roundQ P lp r.body z R) (zipFr ps vs l) w) : Yl P lp vs.toArray w R := fun k => by
  have hl' : (dn w k).heap[lp]? = some (.loop r) := hl
  refine ⟨_, _, _, _, run_yield (P := P) (args := vs.toArray) hl' (by rw [hps]; simp [hlen]), roundIn_of_wpIn (F := FR none) trivial ?_⟩
  have hf := fits_zip ps vs r.tmps l hfit hlt
  refine h k _ k (Nat.le_refl _) ⟨?_, rfl, ?_⟩
  · rw [hps]; simpa using hf.size
  · intro t v ht
    have := hf.slot t v ht
    rw [hps]; simpa using this
section
variable {Q : Exit → Act → World → Prop}
theorem ix_begin {zz lp : Nat} {r : Loop} {body : Code} {R : Value → World → Prop} (hl : w.heap[lp]? = some (.loop r)) (hr : r.state = .ready)
    (h : iwq P n z (some lp) D body (roundPost P lp (rp zz R)) l (setBlock w lp (.loop { r with state := .busy }))) : iwx n z D (roundQ P lp body zz R) .normal l w := fun a k hz ha =>
  ⟨_, run_beginRound (w := dn w k) hl hr, h a k hz ha⟩
theorem ix_round {zz lp : Nat} {r : Loop} {R : Value → World → Prop} (hl : w.heap[lp]? = some (.loop r)) (hzz : zz ≤ z) (h : R (.bool true) (setBlock w lp (.loop { r with state := .ready, pending := none }))) :
    iwx n z D (roundPost P lp (rp zz R)) .normal l w := fun a k hz ha =>
  ⟨_, _, run_endRound (w := dn w k) none hl, _, rfl, _, k, rfl, Nat.le_trans hzz hz, h⟩
theorem ix_round_exit {zz lp id : Nat} {r : Loop} {R : Value → World → Prop} (hl : w.heap[lp]? = some (.loop r)) (hzz : zz ≤ z) (h : R (.bool false) (setBlock w lp (.loop { r with state := .done, pending := some (.exit id) }))) :
    iwx n z D (roundPost P lp (rp zz R)) (.exit id) l w := fun a k hz ha =>
  ⟨_, _, run_endRound (w := dn w k) (some (.exit id)) hl, _, rfl, _, k, rfl, Nat.le_trans hzz hz, h⟩
theorem ix_round_ret {zz lp : Nat} {r : Loop} {R : Value → World → Prop} (hl : w.heap[lp]? = some (.loop r)) (hzz : zz ≤ z) (h : R (.bool false) (setBlock w lp (.loop { r with state := .done, pending := some .ret }))) :
    iwx n z D (roundPost P lp (rp zz R)) .ret l w := fun a k hz ha =>
  ⟨_, _, run_endRound (w := dn w k) (some .ret) hl, _, rfl, _, k, rfl, Nat.le_trans hzz hz, h⟩
end

/-! ### 4. The statement -/
structure RecOf (n : Nat) (ps : Array Tmp) (assign body : Code) (l : Fr) (r : Loop) : Prop where
  state : r.state = .ready
  pending : r.pending = none
  params : r.params = ps
  assign : r.assign = assign
  body : r.body = body
  fit : FitsT n r.tmps l
theorem RecOf.again {n : Nat} {ps : Array Tmp} {assign body : Code} {l : Fr} {r : Loop} (h : RecOf n ps assign body l r) : RecOf n ps assign body l { r with state := .ready, pending := none } := ⟨rfl, rfl, h.params, h.assign, h.body, h.fit⟩
theorem iq_rangeFunc {g : Operand} {ps : Array Tmp} {assign body : Code} {Q : Exit → Act → World → Prop} {f : FuncId} {cap : Array Value} [tf : TFn P f] (hg : ev l g = some (.func (.func f) #[] cap))
    (R : (Loop → Prop) → Value → World → Prop)
    (hcall : ∀ rok : Loop → Prop, (∀ r, rok r → RecOf n ps assign body l r ∧ rok { r with state := .ready, pending := none }) → ∀ r, rok r → Ret P f (#[.func (.yield (w.heap.size + 1)) #[] #[]] ++ cap) ((w.alloc (.deferred (some []))).alloc (.loop r)) (R rok))
    (hend : ∀ rok : Loop → Prop, (∀ r, rok r → RecOf n ps assign body l r ∧ rok { r with state := .ready, pending := none }) → ∀ v w', R rok v w' → ∃ r', w'.heap[w.heap.size + 1]? = some (.loop r') ∧ r'.state ≠ .busy ∧
      ((r'.pending = none ∧ iwx n z (markD w.heap.size :: D) Q .normal l (setBlock w' (w.heap.size + 1) (.loop { r' with state := .exhausted }))) ∨
        ∃ c, r'.pending = some c ∧ iwq P n z none (markD w.heap.size :: D) c Q l (setBlock w' (w.heap.size + 1) (.loop { r' with state := .exhausted })))) :
    iwq P n z none D (.rangeFunc g ps assign body) Q l w := by
  intro a k hz ha
  refine wpIn_rangeFunc fun fn _ => ?_
  obtain ⟨r, hr⟩ : ∃ r : Loop, r = { state := .ready, pending := none, fn, tmps := a.tmps, params := ps, assign, body, defers := w.heap.size } := ⟨_, rfl⟩
  have hR : RecOf n ps assign body l r := by subst hr; exact ⟨rfl, rfl, rfl, rfl, rfl, ha.size, ha.slot⟩
  have hgv := ha.eval hg
  refine ⟨w.heap.size + 1, [markD w.heap.size], dn ((w.alloc (.deferred (some []))).alloc (.loop r)) k, { target := .fn (.func f) cap, args := #[.func (.yield (w.heap.size + 1)) #[] #[]] }, dn ((w.alloc (.deferred (some []))).alloc (.loop r)) k, f,
    #[.func (.yield (w.heap.size + 1)) #[] #[]] ++ cap, dn ((w.alloc (.deferred (some []))).alloc (.loop r)) k, ?_, ?_, fun _ _ => trivial, ?_, fun h => (by cases h), ?_⟩
  · rw [hr]; exact run_enterLoop_outer (w := dn w k) fn a.tmps ps assign body
  · simp only [resolve, hgv]
    simp [Deferred.ofValue]
    rfl
  · have := tf.h (#[.func (.yield (w.heap.size + 1)) #[] #[]] ++ cap) (dn ((w.alloc (.deferred (some []))).alloc (.loop r)) k)
    simpa [invoke] using this
  · refine (ret_in (ro := none) (hcall (RecOf n ps assign body l) (fun r h => ⟨h, h.again⟩) r hR) k).mono fun e w' ⟨v, e', w1, k', hw, hk', hr'⟩ => ?_
    subst e'; subst hw
    obtain ⟨r', h1, h2, h3⟩ := hend (RecOf n ps assign body l) (fun r h => ⟨h, h.again⟩) v w1 hr'
    refine ⟨r'.pending, _, run_endLoop (w := dn w1 k') h1 h2, ?_⟩
    have hfit : FitsD n (markD w.heap.size :: D) { a with defers := [markD w.heap.size] ++ a.defers } l := ⟨ha.size, by simp [ha.defers], ha.slot⟩
    obtain ⟨st, pd, f1, f2, f3, f4, f5, f6⟩ := r'
    rcases h3 with ⟨h3, h4⟩ | ⟨c, h3, h4⟩
    · simp only at h3; subst h3; exact h4 _ k' (Nat.le_trans hz hk') hfit
    · simp only at h3; subst h3; exact h4 _ k' (Nat.le_trans hz hk') hfit

/-! ### 5. A function that holds such a loop -/
theorem ret_of_in {f : FuncId} {fn : Func} {c : Code} {vs : List Value} {R : Value → World → Prop} (hf : P.funcs[f]? = some fn) (hb : fn.body = some c) (hn : fn.ntmps = n) (hle : Nat.ble vs.length n = true)
    (h : ∀ z, iwq P n z none [] c (bodyPostM (FR none) 0 P fn (rp z R)) (args0 vs 0) w) : Ret P f vs.toArray w R := by
  have hle' : vs.length ≤ n := Nat.le_of_ble_eq_true hle
  refine fun k => callsIn_wide.1 (callsIn_of_wp_marks (F := FR none) (n := 0) hf hb trivial (h k _ k (Nat.le_refl _) ⟨?_, rfl, fun t v ht => ?_⟩))
  · simp [hn]; omega
  · obtain ⟨j, rfl, hj⟩ := look_args ht
    have hlt : j < vs.length := (List.getElem?_eq_some_iff.1 hj).1
    rw [Array.getD_eq_getD_getElem?, Nat.zero_add, Array.getElem?_append_left (by simpa using hlt)]
    simp [hj]
theorem leavesM {fn : Func} {tmps : Array Value} {b : Nat} {R : Ending → World → Prop} {v : Value} (hb : w.heap[b]? = some (.deferred (some []))) (hv : (results fn tmps).run P (setBlock w b (.deferred none)) = .ok v (setBlock w b (.deferred none))) (h : R (.returned v) (setBlock w b (.deferred none))) :
    LeavesInM (FR none) 0 P fn tmps R [markD b] .returning w := ⟨by simp, .inl ⟨b, _, rfl, run_takeDeferred hb, v, hv, h⟩⟩
section
variable {fn : Func} {R : Value → World → Prop} {t u : Nat} {v v2 v3 : Value} {e : Exit} {b : Nat}
theorem ixm_ret0 (he : e = .ret ∨ e = .normal) (hr : fn.results = #[]) (h : R (.tuple #[]) w) : iwx n z [] (bodyPostM (FR none) 0 P fn (rp z R)) e l w := fun a k hz ha => by
  rcases he with rfl | rfl <;> (show LeavesInM _ _ _ _ _ _ a.defers _ _; rw [ha.defers]; exact ⟨_, results_none hr _ _ _, _, rfl, w, k, rfl, hz, h⟩)
theorem ixm_ret1 (he : e = .ret ∨ e = .normal) (hr : fn.results = #[.tmp t]) (hv : look l t = some v) (h : R v w) : iwx n z [] (bodyPostM (FR none) 0 P fn (rp z R)) e l w := fun a k hz ha => by
  have h1 : (results fn a.tmps).run P (dn w k) = .ok v (dn w k) := by rw [results_tmp hr, ha.slot t v hv]
  rcases he with rfl | rfl <;> (show LeavesInM _ _ _ _ _ _ a.defers _ _; rw [ha.defers]; exact ⟨_, h1, _, rfl, w, k, rfl, hz, h⟩)
theorem ixm_ret3 {t3 : Nat} (he : e = .ret ∨ e = .normal) (hr : fn.results = #[.tmp t, .tmp u, .tmp t3]) (hv : look l t = some v) (hu : look l u = some v2) (h3 : look l t3 = some v3) (h : R (.tuple #[v, v2, v3]) w) : iwx n z [] (bodyPostM (FR none) 0 P fn (rp z R)) e l w := fun a k hz ha => by
  have h1 : (results fn a.tmps).run P (dn w k) = .ok (.tuple #[v, v2, v3]) (dn w k) := by rw [results_tmp3 hr, ha.slot t v hv, ha.slot u v2 hu, ha.slot t3 v3 h3]
  rcases he with rfl | rfl <;> (show LeavesInM _ _ _ _ _ _ a.defers _ _; rw [ha.defers]; exact ⟨_, h1, _, rfl, w, k, rfl, hz, h⟩)
/-- .. behind the loop -/
theorem ixm_retm1 (he : e = .ret ∨ e = .normal) (hr : fn.results = #[.tmp t]) (hv : look l t = some v) (hb : w.heap[b]? = some (.deferred (some []))) (h : R v (setBlock w b (.deferred none))) :
    iwx n z [markD b] (bodyPostM (FR none) 0 P fn (rp z R)) e l w := fun a k hz ha => by
  have hb' : (dn w k).heap[b]? = some (.deferred (some [])) := hb
  rcases he with rfl | rfl <;> (show LeavesInM _ _ _ _ _ _ a.defers _ _; rw [ha.defers]; exact leavesM hb' (by rw [results_tmp hr, ha.slot t v hv]) ⟨_, rfl, _, k, rfl, hz, h⟩)
theorem ixm_retm3 {t3 : Nat} (he : e = .ret ∨ e = .normal) (hr : fn.results = #[.tmp t, .tmp u, .tmp t3]) (hv : look l t = some v) (hu : look l u = some v2) (h3 : look l t3 = some v3) (hb : w.heap[b]? = some (.deferred (some []))) (h : R (.tuple #[v, v2, v3]) (setBlock w b (.deferred none))) :
    iwx n z [markD b] (bodyPostM (FR none) 0 P fn (rp z R)) e l w := fun a k hz ha => by
  have hb' : (dn w k).heap[b]? = some (.deferred (some [])) := hb
  rcases he with rfl | rfl <;> (show LeavesInM _ _ _ _ _ _ a.defers _ _; rw [ha.defers]; exact leavesM hb' (by rw [results_tmp3 hr, ha.slot t v hv, ha.slot u v2 hu, ha.slot t3 v3 h3]) ⟨_, rfl, _, k, rfl, hz, h⟩)
/-- a result that lies in a cell -/
theorem ixm_retmc1 {T : TypeId} {a' : Addr} [c : TOne P T] (he : e = .ret ∨ e = .normal) (hr : fn.results = #[.cell t T]) (hv : look l t = some (.pointer (some a'))) (hb : w.heap[b]? = some (.deferred (some []))) (hc : (setBlock w b (.deferred none)).cell? a' = some v) (h : R v (setBlock w b (.deferred none))) :
    iwx n z [markD b] (bodyPostM (FR none) 0 P fn (rp z R)) e l w := fun a k hz ha => by
  have hb' : (dn w k).heap[b]? = some (.deferred (some [])) := hb
  have hc' : (setBlock (dn w k) b (.deferred none)).cell? a' = some v := hc
  have h1 : (results fn a.tmps).run P (setBlock (dn w k) b (.deferred none)) = .ok v (setBlock (dn w k) b (.deferred none)) := by
    have hs := ha.slot t _ hv
    rw [Array.getD_eq_getD_getElem?] at hs
    unfold results
    simp [hr, hs, asAddr, loadVar, TOne.agg (T := T), run_load, hc, Result.andThen]
  rcases he with rfl | rfl <;> (show LeavesInM _ _ _ _ _ _ a.defers _ _; rw [ha.defers]; exact leavesM hb' h1 ⟨_, rfl, _, k, rfl, hz, h⟩)
end
end Go.Proofs.Ytogfllhbgkeinaa.Eng
