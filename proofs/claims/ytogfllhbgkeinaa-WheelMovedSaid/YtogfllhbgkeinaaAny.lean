/-
  Regions that draw their order: what only reads is taken first, as long as the rest leaves what it reads alone; the rest comes as the edges force it.
-/
import Derived.Test.YtogfllhbgkeinaaOps
set_option linter.unusedVariables false
set_option linter.unusedSimpArgs false
namespace Go.Proofs.Ytogfllhbgkeinaa.Eng
open Go.RowKit Base

/-- the old blocks are as they were; new ones may have come -/
def Ext (w w' : World) : Prop := Kept (fun _ => False) w w'
theorem Ext.refl (w : World) : Ext w w := Kept.refl _ w
theorem Ext.trans {a b c : World} (h : Ext a b) (k : Ext b c) : Ext a c := Kept.trans h k fun _ _ h => h
theorem Ext.alloc {w w' : World} (h : Ext w w') (o : Obj) : Ext w (w'.alloc o) := h.trans (Kept.alloc _ _ o)
theorem Ext.cell {w w' : World} (h : Ext w w') {a : Addr} {v : Value} (hc : w.cell? a = some v) : w'.cell? a = some v := Kept.cell h hc fun k => k
theorem Ext.at {w w' : World} (h : Ext w w') {b : Nat} {o : Obj} (hb : w.heap[b]? = some o) : w'.heap[b]? = some o := Kept.at h hb fun k => k
theorem Ext.cells {w w' : World} (h : Ext w w') {b o : Nat} {cs : List Value} (hc : Cells w b o cs) : Cells w' b o cs := fun j v hj => h.cell (hc j v hj)
theorem Ext.kept {w w' : World} (h : Ext w w') (S : Nat → Prop) : Kept S w w' := Kept.mono h fun _ _ h => h.elim
theorem Ext.map {w w' : World} (h : Ext w w') {r : Nat} {m : KV} (hm : SMap w r m) : SMap w' r m := hm.kept h fun k => k

/-- no way out by a panic -/
class NP (Q : Exit → Act → World → Prop) : Prop where h : ∀ c a w, ¬ Q (.panic c) a w
instance {K : Act → World → Prop} {Q : Exit → Act → World → Prop} [q : NP Q] : NP (Exit.then K Q) := ⟨fun c a w h => q.h c a w h⟩
instance {Q : Exit → Act → World → Prop} [q : NP Q] : NP (Exit.noGoto Q) := ⟨fun c a w h => q.h c a w h⟩
instance {id : Nat} {Q : Exit → Act → World → Prop} [q : NP Q] : NP (Exit.inBlock id Q) := ⟨fun c a w h => q.h c a w h⟩
instance {P : Program} {fn : Func} {z : Nat} {R : Value → World → Prop} : NP (bodyPost P fn (rp z R)) := ⟨fun c a w h => by obtain ⟨_, v, h, _⟩ := h; cases h⟩
class TWide (P : Program) : Prop where h : P.follows .mixedOrders = true

variable {P : Program} {n z : Nat} {ops : Array Oper} {Q : Exit → Act → World → Prop} {md : Region.Mode} {S : World → Prop} {H : List Nat}

/-- which operations come behind operation i, whatever the order -/
def lateL (i : Nat) : List Oper → List Bool → List Bool
  | [], acc => acc
  | o :: os, acc => lateL i os (acc ++ [o.after.any fun e => Region.binds .any e && (Nat.beq e.on i || acc.getD e.on false)])
def late (ops : Array Oper) (i j : Nat) : Bool := (lateL i ops.toList []).getD j false
/-- what is listed, is listed with all that stands ahead of it -/
def Closed (ops : Array Oper) (listed : Array Bool) : Prop :=
  ∀ j o, ops[j]? = some o → listed.getD j false = true → ∀ e ∈ o.after, Region.binds .any e = true → listed.getD e.on false = true
theorem late_inv {listed : Array Bool} {i : Nat} (hc : Closed ops listed) (hi : listed.getD i false = false) : ∀ (os : List Oper) (acc : List Bool), (∀ m, os[m]? = ops[acc.length + m]?) →
    (∀ j, acc.getD j false = true → listed.getD j false = false) → ∀ j, (lateL i os acc).getD j false = true → listed.getD j false = false
  | [], acc, _, h, j, hj => h j hj
  | o :: os, acc, hos, h, j, hj => by
    refine late_inv hc hi os _ (fun m => ?_) (fun j hj => ?_) j hj
    · have := hos (m + 1)
      simp only [List.getElem?_cons_succ] at this
      rw [this, List.length_append, List.length_singleton]
      congr 1; omega
    · have ho : ops[acc.length]? = some o := by have := hos 0; simpa using this.symm
      rcases Nat.lt_trichotomy j acc.length with g | g | g
      · rw [List.getD_eq_getElem?_getD, List.getElem?_append_left g, ← List.getD_eq_getElem?_getD] at hj
        exact h j hj
      · subst g
        rw [List.getD_eq_getElem?_getD, List.getElem?_append_right (Nat.le_refl _)] at hj
        simp only [Nat.sub_self, List.getElem?_cons_zero, Option.getD_some] at hj
        obtain ⟨e, he, hb⟩ := Array.any_eq_true'.1 hj
        simp only [Bool.and_eq_true, Bool.or_eq_true] at hb
        cases hl : listed.getD acc.length false with
        | false => rfl
        | true =>
          have h1 := hc _ _ ho hl e he hb.1
          rcases hb.2 with g | g
          · rw [Nat.eq_of_beq_eq_true g, hi] at h1; cases h1
          · rw [h _ g] at h1; cases h1
      · rw [List.getD_eq_getElem?_getD, List.getElem?_eq_none (by simp; omega)] at hj
        cases hj
theorem late_of {listed : Array Bool} {i j : Nat} (hc : Closed ops listed) (hi : listed.getD i false = false) (hj : listed.getD j false = true) : late ops i j = false := by
  cases h : late ops i j with
  | false => rfl
  | true =>
    have := late_inv hc hi ops.toList [] (fun m => by simp) (fun j hj => by simp at hj) j h
    rw [hj] at this; cases this
theorem getD_both' {listed : Array Bool} {i : Nat} (h : listed.getD i true = false) : listed.getD i false = false := getD_both h
theorem closed_put {listed : Array Bool} {i : Nat} (hc : Closed ops listed) (hi : i ∈ Region.ready .any ops listed) : Closed ops (listed.setIfInBounds i true) := fun j o hj hl e he hb => by
  obtain ⟨hun, oi, hoi, hall⟩ := mem_ready.1 hi
  have mono : ∀ m, listed.getD m false = true → (listed.setIfInBounds i true).getD m false = true := fun m hm => by
    by_cases h : i = m
    · subst h
      rw [getD_both hun] at hm; cases hm
    · rw [Array.getD_eq_getD_getElem?, Array.getElem?_setIfInBounds_ne h, ← Array.getD_eq_getD_getElem?]; exact hm
  by_cases h : i = j
  · subst h
    rw [hoi] at hj; cases hj
    exact mono _ (hall e he hb)
  · have : listed.getD j false = true := by
      rw [Array.getD_eq_getD_getElem?, Array.getElem?_setIfInBounds_ne h, ← Array.getD_eq_getD_getElem?] at hl; exact hl
    exact mono _ (hc j o hj this e he hb)
/-- must S hold behind operation j? (Something of H may come behind it.) -/
def need (ops : Array Oper) (H : List Nat) (j : Nat) : Bool := H.any fun i => !Nat.beq i j && !late ops i j
/-- whatever order is picked from here on -/
def AnyS (P : Program) (ops : Array Oper) (Q : Exit → Act → World → Prop) (S : World → Prop) (H : List Nat) : Nat → Array Bool → Act → World → Prop
  | 0, listed, a, w => Region.ready .any ops listed = [] ∧ Q .normal a w
  | fuel + 1, listed, a, w =>
    (Region.ready .any ops listed = [] → Q .normal a w) ∧
    ∀ i ∈ Region.ready .any ops listed, wpOp P ops Q i (fun a' w' => (need ops H i = true → S w → S w') ∧ AnyS P ops Q S H fuel (listed.setIfInBounds i true) a' w') a w
theorem any_of : ∀ (fuel : Nat) (listed : Array Bool) (a : Act) (w : World), AnyS P ops Q S H fuel listed a w → wpAny P .any ops Q fuel listed a w
  | 0, _, _, _, h => h
  | fuel + 1, _, _, _, h => ⟨h.1, fun i hi => wpOp_mono (fun a' w' h' => any_of fuel _ a' w' h'.2) (h.2 i hi)⟩
theorem lt_of_getD {listed : Array Bool} {j : Nat} (h : listed.getD j true = false) : j < listed.size := by
  rcases Nat.lt_or_ge j listed.size with g | g
  · exact g
  · rw [Array.getD_eq_getD_getElem?, Array.getElem?_eq_none g] at h; cases h
theorem any_first [q : NP Q] {i : Nat} {oi : Oper} {v : Value} {T : World → Prop} (hi : ops[i]? = some oi)
    (hT : ∀ j oj, ops[j]? = some oj → j ≠ i → late ops i j = false → ∀ w w', T w → (need ops H j = true → S w → S w') → T w')
    (hsel : ∀ (j : Nat) (o : Oper) cs b, ops[j]? = some o → o.op ≠ .select cs b) :
    ∀ (fuel : Nat) (listed : Array Bool) (a : Act) (w : World),
      (∀ j oj, ops[j]? = some oj → j ≠ i → listed.getD j true = false → (∀ e ∈ oj.after, Region.binds .any e = true → e.on ≠ i) → oi.apart ops oj = true) →
      Closed ops listed → i ∈ Region.ready .any ops listed → YieldsIf P ops T oi v a → T w →
      AnyS P ops Q S H fuel (listed.setIfInBounds i true) (a.put oi.dst v) w → AnyS P ops Q S H (fuel + 1) listed a w := by
  have hQ : ∀ c a w, Q (.panic c) (a.put oi.dst v) w → Q (.panic c) a w := fun c a w h => (q.h _ _ _ h).elim
  intro fuel
  induction fuel with
  | zero =>
    intro listed a w _ hcl hr hy hS A
    refine ⟨fun h => (by rw [h] at hr; cases hr), fun j hj => ?_⟩
    by_cases hji : j = i
    · subst hji; exact hy.wpOp hi hS ⟨fun _ h => h, A⟩
    · have := ready_mono hj hji
      rw [A.1] at this
      cases this
  | succ fuel ih =>
    intro listed a w hfree hcl hr hy hS A
    refine ⟨fun h => (by rw [h] at hr; cases hr), fun j hj => ?_⟩
    by_cases hji : j = i
    · subst hji; exact hy.wpOp hi hS ⟨fun _ h => h, A⟩
    · have h1 := A.2 j (ready_mono hj hji)
      obtain ⟨hjun, oj, hoj, hall⟩ := mem_ready.1 hj
      have hun := (mem_ready.1 hr).1
      have hnot : ∀ e ∈ oj.after, Region.binds .any e = true → e.on ≠ i := fun e he hb heq => by
        have h1 := hall e he hb
        rw [heq, getD_both hun] at h1
        cases h1
      have hlate : late ops i j = false := by
        refine late_of (closed_put hcl hj) (i := i) (j := j) ?_ ?_
        · rw [Array.getD_eq_getD_getElem?, Array.getElem?_setIfInBounds_ne hji, ← Array.getD_eq_getD_getElem?]; exact getD_both hun
        · rw [Array.getD_eq_getD_getElem?, Array.getElem?_setIfInBounds_self_of_lt (lt_of_getD hjun)]; rfl
      have h2 := wpOp_putIf hoj (hfree j oj hoj hji hjun hnot) (fun cs b => hsel i oi cs b hi) (fun cs b => hsel j oj cs b hoj) hQ hy h1
      have hfree' : ∀ k ok, ops[k]? = some ok → k ≠ i → (listed.setIfInBounds j true).getD k true = false →
          (∀ e ∈ ok.after, Region.binds .any e = true → e.on ≠ i) → oi.apart ops ok = true := fun k ok hk hki hun' hno => by
        refine hfree k ok hk hki ?_ hno
        by_cases hjk : j = k
        · subst hjk; exact hjun
        · rw [getD_set_ne true hjk] at hun'; exact hun'
      refine wpOp_mono (fun a' w' h3 => ⟨h3.2.1, ih (listed.setIfInBounds j true) a' w' hfree' (closed_put hcl hj) (ready_mono hr (Ne.symm hji)) h3.1 (hT j oj hoj hji hlate w w' hS h3.2.1) ?_⟩) h2
      rw [Array.setIfInBounds_comm _ _ hji]
      exact h3.2.2

/-! ### From frames -/
/-- a condition on worlds that doesn't ask how often an order was drawn -/
def und (S : World → Prop) : World → Prop := fun w => ∃ w1 k, w = dn w1 k ∧ S w1
/-- the region's rest, from a frame -/
def da (P : Program) (n z : Nat) (ops : Array Oper) (Q : Exit → Act → World → Prop) (S : World → Prop) (H : List Nat) (fuel : Nat) (listed : Array Bool) (l : Fr) (w : World) : Prop :=
  ∀ a k, z ≤ k → Fits n a l → Closed ops listed → AnyS P ops Q (und S) H fuel listed a (dn w k)
variable {l : Fr} {w w' : World} {op : Op} {d ty i fuel : Nat} {pos : String} {af : Array Edge} {v : Value} {listed : Array Bool}
theorem d_begin [t : TWide P] {id : Nat} {os : List Oper} (S : World → Prop) (H : List Nat) (h : da P n z os.toArray Q S H os.length (Array.replicate os.length false) l w) : wq P n z (.region id os.toArray true) Q l w :=
  fun a k hz ha => wp_region_any t.h (any_of _ _ _ _ (by have := h a (k + 1) (Nat.le_succ_of_le hz) ha (fun j o _ hl => by simp [Array.getD_eq_getD_getElem?, Array.getElem?_replicate] at hl; split at hl <;> simp at hl); rw [List.size_toArray]; exact this))
def takeOK (ops : Array Oper) (listed : Array Bool) (i : Nat) : Bool := Region.noSelect ops && Region.free .any ops listed i && (Region.ready .any ops listed).contains i
theorem takeOK_spec (h : takeOK ops listed i = true) : Region.noSelect ops = true ∧ Region.free .any ops listed i = true ∧ (Region.ready .any ops listed).contains i = true := by
  simpa [takeOK, and_assoc] using h
theorem need_of {j : Nat} {oj : Oper} (hj : ops[j]? = some oj) (hji : j ≠ i) (hH : H.contains i = true) (hl : late ops i j = false) : need ops H j = true := by
  unfold need
  rw [List.any_eq_true]
  refine ⟨i, by simpa using hH, ?_⟩
  have h1 : Nat.beq i j = false := by
    cases hb : Nat.beq i j with
    | false => rfl
    | true => exact absurd (Nat.eq_of_beq_eq_true hb).symm hji
  simp [h1, hl]
/-- an operation that gives its value in whatever world comes first -/
theorem d_pure [NP Q] {oi : Oper} (hi : ops[i]? = some oi) (hg : oi = ⟨some d, op, ty, pos, af, none⟩) (hd : Nat.blt d n = true) (hok : takeOK ops listed i = true) (he : ∀ w, Eg P l op w v)
    (h : da P n z ops Q S H fuel (listed.setIfInBounds i true) ((d, v) :: l) w) : da P n z ops Q S H (fuel + 1) listed l w := by
  subst hg
  obtain ⟨h1, h2, h3⟩ := takeOK_spec hok
  intro a k hz ha hcl
  refine any_first (T := fun _ => True) hi (fun _ _ _ _ _ _ _ _ _ => trivial) (Region.noSelect_spec h1) fuel listed a _ (Region.free_spec hi h2) hcl (by simpa using h3) (.inl ⟨rfl, fun w _ => ?_⟩) trivial (h _ k hz (ha.put hd v) (closed_put hcl (by simpa using h3)))
  have := he w a.eval ha.env (some d) ty pos af none w.drawn
  rwa [dn_self] at this
/-- an operation that gives its value wherever S holds comes first -/
theorem d_head [NP Q] {oi : Oper} (hi : ops[i]? = some oi) (hg : oi = ⟨some d, op, ty, pos, af, none⟩) (hd : Nat.blt d n = true) (hok : takeOK ops listed i = true) (hH : H.contains i = true) (hS : S w) (he : ∀ w', S w' → Eg P l op w' v)
    (h : da P n z ops Q S H fuel (listed.setIfInBounds i true) ((d, v) :: l) w) : da P n z ops Q S H (fuel + 1) listed l w := by
  subst hg
  obtain ⟨h1, h2, h3⟩ := takeOK_spec hok
  intro a k hz ha hcl
  refine any_first (T := und S) hi (fun j oj hj hji hnot w w' hw h => h (need_of hj hji hH hnot) hw) (Region.noSelect_spec h1) fuel listed a _ (Region.free_spec hi h2) hcl (by simpa using h3) (.inl ⟨rfl, fun w' hw' => ?_⟩) ⟨w, k, rfl, hS⟩ (h _ k hz (ha.put hd v) (closed_put hcl (by simpa using h3)))
  obtain ⟨w1, j, rfl, hs⟩ := hw'
  exact he w1 hs a.eval ha.env _ _ _ _ _ j
theorem wanted_on {j s : Nat} {b c : Bool} {a : Act} {dd : Option Nat} (ha : Fits n a l) (hj : gslot ops j = some s) (hb : look l s = some (.bool b)) : Region.wanted (⟨dd, op, ty, pos, af, some (j, c)⟩ : Oper) (yielded ops a.tmps) = (b == c) := by
  have hy := yields ha hj hb
  simp only [Region.wanted, hy]; rfl
/-- .. behind a guard that holds -/
theorem d_pureG [NP Q] {oi : Oper} {j s : Nat} {c : Bool} (hi : ops[i]? = some oi) (hg : oi = ⟨some d, op, ty, pos, af, some (j, c)⟩) (hd : Nat.blt d n = true) (hok : takeOK ops listed i = true) (hj : gslot ops j = some s) (hb : look l s = some (.bool c)) (he : ∀ w, Eg P l op w v)
    (h : da P n z ops Q S H fuel (listed.setIfInBounds i true) ((d, v) :: l) w) : da P n z ops Q S H (fuel + 1) listed l w := by
  subst hg
  obtain ⟨h1, h2, h3⟩ := takeOK_spec hok
  intro a k hz ha hcl
  refine any_first (T := fun _ => True) hi (fun _ _ _ _ _ _ _ _ _ => trivial) (Region.noSelect_spec h1) fuel listed a _ (Region.free_spec hi h2) hcl (by simpa using h3) (.inl ⟨by rw [wanted_on ha hj hb]; simp, fun w _ => ?_⟩) trivial (h _ k hz (ha.put hd v) (closed_put hcl (by simpa using h3)))
  have := he w a.eval ha.env (some d) ty pos af (some (j, c)) w.drawn
  rwa [dn_self] at this
theorem d_headG [NP Q] {oi : Oper} {j s : Nat} {c : Bool} (hi : ops[i]? = some oi) (hg : oi = ⟨some d, op, ty, pos, af, some (j, c)⟩) (hd : Nat.blt d n = true) (hok : takeOK ops listed i = true) (hj : gslot ops j = some s) (hb : look l s = some (.bool c)) (hH : H.contains i = true) (hS : S w) (he : ∀ w', S w' → Eg P l op w' v)
    (h : da P n z ops Q S H fuel (listed.setIfInBounds i true) ((d, v) :: l) w) : da P n z ops Q S H (fuel + 1) listed l w := by
  subst hg
  obtain ⟨h1, h2, h3⟩ := takeOK_spec hok
  intro a k hz ha hcl
  refine any_first (T := und S) hi (fun j oj hj hji hnot w w' hw h => h (need_of hj hji hH hnot) hw) (Region.noSelect_spec h1) fuel listed a _ (Region.free_spec hi h2) hcl (by simpa using h3) (.inl ⟨by rw [wanted_on ha hj hb]; simp, fun w' hw' => ?_⟩) ⟨w, k, rfl, hS⟩ (h _ k hz (ha.put hd v) (closed_put hcl (by simpa using h3)))
  obtain ⟨w1, j, rfl, hs⟩ := hw'
  exact he w1 hs a.eval ha.env _ _ _ _ _ j
/-- behind a guard that does not hold -/
theorem d_off [NP Q] {oi : Oper} {j s : Nat} {b c : Bool} (hi : ops[i]? = some oi) (hg : oi = ⟨some d, op, ty, pos, af, some (j, c)⟩) (hd : Nat.blt d n = true) (hok : takeOK ops listed i = true) (hj : gslot ops j = some s) (hb : look l s = some (.bool b)) (hbc : (b == c) = false)
    (h : da P n z ops Q S H fuel (listed.setIfInBounds i true) ((d, undef) :: l) w) : da P n z ops Q S H (fuel + 1) listed l w := by
  subst hg
  obtain ⟨h1, h2, h3⟩ := takeOK_spec hok
  intro a k hz ha hcl
  exact any_first (T := fun _ => True) hi (fun _ _ _ _ _ _ _ _ _ => trivial) (Region.noSelect_spec h1) fuel listed a _ (Region.free_spec hi h2) hcl (by simpa using h3) (.inr ⟨by rw [wanted_on ha hj hb, hbc], rfl⟩) trivial (h _ k hz (ha.put hd undef) (closed_put hcl (by simpa using h3)))
theorem d_offu [NP Q] {oi : Oper} {j s : Nat} {c : Bool} (hi : ops[i]? = some oi) (hg : oi = ⟨some d, op, ty, pos, af, some (j, c)⟩) (hd : Nat.blt d n = true) (hok : takeOK ops listed i = true) (hj : gslot ops j = some s) (hb : look l s = some undef)
    (h : da P n z ops Q S H fuel (listed.setIfInBounds i true) ((d, undef) :: l) w) : da P n z ops Q S H (fuel + 1) listed l w := by
  subst hg
  obtain ⟨h1, h2, h3⟩ := takeOK_spec hok
  intro a k hz ha hcl
  have hw : Region.wanted (⟨some d, op, ty, pos, af, some (j, c)⟩ : Oper) (yielded ops a.tmps) = false := by
    simp only [Region.wanted, yields_undef ha hj hb]; rfl
  exact any_first (T := fun _ => True) hi (fun _ _ _ _ _ _ _ _ _ => trivial) (Region.noSelect_spec h1) fuel listed a _ (Region.free_spec hi h2) hcl (by simpa using h3) (.inr ⟨hw, rfl⟩) trivial (h _ k hz (ha.put hd undef) (closed_put hcl (by simpa using h3)))
/-- the only one that can come now -/
theorem d_next {oi : Oper} (hi : ops[i]? = some oi) (hr : Region.ready .any ops listed = [i])
    (h : ∀ a k, z ≤ k → Fits n a l → Closed ops (listed.setIfInBounds i true) → wpOp P ops Q i (fun a' w' => (need ops H i = true → und S (dn w k) → und S w') ∧ AnyS P ops Q (und S) H fuel (listed.setIfInBounds i true) a' w') a (dn w k)) : da P n z ops Q S H (fuel + 1) listed l w := by
  intro a k hz ha hcl
  refine ⟨fun h0 => (by rw [hr] at h0; cases h0), fun j hj => ?_⟩
  rw [hr] at hj
  obtain rfl := List.mem_singleton.1 hj
  exact h a k hz ha (closed_put hcl (by rw [hr]; exact List.mem_singleton_self _))
theorem d_val {oi : Oper} (hi : ops[i]? = some oi) (hg : oi = ⟨some d, op, ty, pos, af, none⟩) (hd : Nat.blt d n = true) (hr : Region.ready .any ops listed = [i]) (he : Ev P l op w v w') (hS : need ops H i = false ∨ S w')
    (h : da P n z ops Q S H fuel (listed.setIfInBounds i true) ((d, v) :: l) w') : da P n z ops Q S H (fuel + 1) listed l w := by
  subst hg
  refine d_next hi hr fun a k hz ha hcl => ?_
  unfold wpOp
  simp only [hi, Region.wanted, if_true]
  refine .inl ?_
  obtain ⟨k', hk', he'⟩ := he a.eval ha.env (some d) ty pos af none k
  simp only [Oper.wp, he', Oper.upon]
  exact ⟨fun hn _ => ⟨w', k', rfl, hS.resolve_left (by rw [hn]; simp)⟩, h _ k' (Nat.le_trans hz hk') (ha.put hd v) hcl⟩
theorem d_val0 {oi : Oper} (hi : ops[i]? = some oi) (hg : oi = ⟨none, op, ty, pos, af, none⟩) (hr : Region.ready .any ops listed = [i]) (he : Ev P l op w v w') (hS : need ops H i = false ∨ S w')
    (h : da P n z ops Q S H fuel (listed.setIfInBounds i true) l w') : da P n z ops Q S H (fuel + 1) listed l w := by
  subst hg
  refine d_next hi hr fun a k hz ha hcl => ?_
  unfold wpOp
  simp only [hi, Region.wanted, if_true]
  refine .inl ?_
  obtain ⟨k', hk', he'⟩ := he a.eval ha.env none ty pos af none k
  simp only [Oper.wp, he', Oper.upon]
  exact ⟨fun hn _ => ⟨w', k', rfl, hS.resolve_left (by rw [hn]; simp)⟩, h _ k' (Nat.le_trans hz hk') ha hcl⟩
theorem d_set {oi : Oper} (hi : ops[i]? = some oi) (hg : oi = ⟨none, op, ty, pos, af, none⟩) (hr : Region.ready .any ops listed = [i]) (he : Es P l op w w') (hS : need ops H i = false ∨ S w')
    (h : da P n z ops Q S H fuel (listed.setIfInBounds i true) l w') : da P n z ops Q S H (fuel + 1) listed l w := by
  subst hg
  refine d_next hi hr fun a k hz ha hcl => ?_
  unfold wpOp
  simp only [hi, Region.wanted, if_true]
  refine .inl ?_
  obtain ⟨k', hk', he'⟩ := he a.eval ha.env none ty pos af none k
  simp only [Oper.wp, he', Oper.upon]
  exact ⟨fun hn _ => ⟨w', k', rfl, hS.resolve_left (by rw [hn]; simp)⟩, h _ k' (Nat.le_trans hz hk') ha hcl⟩
theorem d_call {oi : Oper} {f : FuncId} {args : Array Value} {R : Value → World → Prop} (hi : ops[i]? = some oi) (hg : oi = ⟨some d, op, ty, pos, af, none⟩) (hd : Nat.blt d n = true) (hr : Region.ready .any ops listed = [i]) (he : Ec P l op f args) (hc : Ret P f args w R)
    (hS : ∀ v w', R v w' → need ops H i = false ∨ S w') (h : ∀ v w', R v w' → da P n z ops Q S H fuel (listed.setIfInBounds i true) ((d, v) :: l) w') : da P n z ops Q S H (fuel + 1) listed l w := by
  subst hg
  refine d_next hi hr fun a k hz ha hcl => ?_
  unfold wpOp
  simp only [hi, Region.wanted, if_true]
  refine .inl ?_
  simp only [Oper.wp, he a.eval ha.env, Oper.upon]
  exact Calls.mono (hc k) fun e w' ⟨v, e', w1, k', hw, hk', r⟩ => by
    subst e'; subst hw
    exact ⟨fun hn _ => ⟨w1, k', rfl, (hS v w1 r).resolve_left (by rw [hn]; simp)⟩, h v w1 r _ k' (Nat.le_trans hz hk') (ha.put hd v) hcl⟩
theorem d_end (hr : Region.ready .any ops listed = []) (h : wx n z Q .normal l w) : da P n z ops Q S H fuel listed l w := fun a k hz ha hcl => by
  cases fuel with
  | zero => exact ⟨hr, h a k hz ha⟩
  | succ f => exact ⟨fun _ => h a k hz ha, by rw [hr]; simp⟩
end Go.Proofs.Ytogfllhbgkeinaa.Eng
