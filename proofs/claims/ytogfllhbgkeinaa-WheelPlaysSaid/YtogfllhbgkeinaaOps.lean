/-
  One rule an operation: what it gives from a frame, and what becomes of the world. Facts on a program's types and functions come by instances.
-/
import Derived.Test.YtogfllhbgkeinaaEng
set_option linter.unusedVariables false
set_option linter.unusedSimpArgs false
namespace Go.Proofs.Ytogfllhbgkeinaa.Eng
open Go.RowKit Base
open Go.ChangeMaps (setBlock)

/-! ### 1. Facts on a program's tables -/
def fieldOK (P : Program) (T : TypeId) (i off : Nat) : Bool :=
  match P.underlying T with
  | some (.struct fs) => match fs[i]? with
    | some f => Nat.beq f.offset off && match P.info? f.type with
      | some info => !Nat.beq info.size 0
      | none => false
    | none => false
  | _ => false
def oneOK (P : Program) (T : TypeId) : Bool :=
  (match P.underlying T with
  | some (.struct _) => false
  | some (.array _ _) => false
  | some _ => true
  | none => false) && match P.info? T with
    | some i => Nat.beq i.size 1
    | none => false
def aggOK (P : Program) (T : TypeId) (k : Nat) : Bool :=
  (match P.underlying T with
  | some (.struct _) => true
  | some (.array _ _) => true
  | _ => false) && match P.info? T with
    | some i => Nat.beq i.size k
    | none => false
def sizeOK (P : Program) (T : TypeId) (k : Nat) : Bool :=
  match P.info? T with
  | some i => Nat.beq i.size k
  | none => false
class TField (P : Program) (T : TypeId) (i : Nat) (off : outParam Nat) : Prop where h : fieldOK P T i off = true
class TOne (P : Program) (T : TypeId) : Prop where h : oneOK P T = true
class TAgg (P : Program) (T : TypeId) (k : outParam Nat) : Prop where h : aggOK P T k = true
class TSlice (P : Program) (T : TypeId) (e sz : outParam Nat) : Prop where
  h : P.underlying T = some (.slice e)
  s : sizeOK P e sz = true
class TArr (P : Program) (T : TypeId) (len e sz : outParam Nat) : Prop where
  h : P.underlying T = some (.array len e)
  s : sizeOK P e sz = true
class TMap (P : Program) (T : TypeId) (k e : outParam Nat) : Prop where
  h : P.underlying T = some (.map k e)
  s : P.underlying k = some .string
class TStr (P : Program) (T : TypeId) : Prop where h : P.underlying T = some .string
class TPtr (P : Program) (T : TypeId) (e : outParam Nat) : Prop where h : P.underlying T = some (.pointer e)
class TInt (P : Program) (T : TypeId) (k : outParam IntKind) : Prop where h : P.underlying T = some (.int k)
class TZero (P : Program) (T : TypeId) (z : outParam Value) : Prop where h : ∀ w, (zeroValue T).run P w = .ok z w
class TFn (P : Program) (f : FuncId) : Prop where h : ∀ args w, (callFunc f args).run P w = .ok (.enter f args) w

variable {P : Program} {l : Fr} {w : World} {T : TypeId} {x y z : Operand} {v : Value}

theorem run_sizeOf {k : Nat} (h : sizeOK P T k = true) : (sizeOf T).run P w = .ok k w := by
  unfold sizeOK at h
  cases hi : P.info? T with
  | none => simp [hi] at h
  | some i =>
    simp only [hi] at h
    have := Nat.eq_of_beq_eq_true h
    simp [sizeOf, typeInfo, hi, this, Result.andThen]
theorem TOne.agg [c : TOne P T] : (isAgg T).run P w = .ok false w := by
  have h := c.h
  unfold oneOK at h
  cases hu : P.underlying T with
  | none => simp [hu] at h
  | some d =>
    cases d <;> simp [hu] at h <;> simp [isAgg, run_underlying hu, Result.andThen]
theorem TOne.size [c : TOne P T] : (sizeOf T).run P w = .ok 1 w := by
  have h := c.h
  unfold oneOK at h
  simp only [Bool.and_eq_true] at h
  exact run_sizeOf (by simpa [sizeOK] using h.2)
theorem TAgg.agg {k : Nat} [c : TAgg P T k] : (isAgg T).run P w = .ok true w := by
  have h := c.h
  unfold aggOK at h
  cases hu : P.underlying T with
  | none => simp [hu] at h
  | some d =>
    cases d <;> simp [hu] at h <;> simp [isAgg, run_underlying hu, Result.andThen]
theorem TAgg.size {k : Nat} [c : TAgg P T k] : (sizeOf T).run P w = .ok k w := by
  have h := c.h
  unfold aggOK at h
  simp only [Bool.and_eq_true] at h
  exact run_sizeOf (by simpa [sizeOK] using h.2)

theorem add_at (b o n : Nat) : (⟨b, o, none⟩ : Addr).add n = ⟨b, o + n, none⟩ := by unfold Addr.add; split <;> simp_all

/-! ### 2. Values that move -/
theorem e_move (hx : ev l x = some v) : Eg P l (.move x) w v := fun ρ h d t p af g k₀ => by simp [execOp, h x v hx]
theorem e_assign (hx : ev l x = some v) : Eg P l (.assign x) w v := fun ρ h d t p af g k₀ => by simp [execOp, h x v hx]
theorem e_nil {a : Addr} (hx : ev l x = some (.pointer (some a))) : Eg P l (.nilCheck x) w (.pointer (some a)) := fun ρ h d t p af g k₀ => by simp [execOp, h x _ hx]
theorem e_nilF {f : FuncId} {c1 c2 : Array Value} (hx : ev l x = some (.func (.func f) c1 c2)) : Eg P l (.nilCheck x) w (.func (.func f) c1 c2) := fun ρ h d t p af g k₀ => by simp [execOp, h x _ hx]
theorem e_pick {c : Operand} {b : Bool} {u : Value} (hc : ev l c = some (.bool b)) (hx : ev l x = some v) (hy : ev l y = some u) : Eg P l (.pick c x y) w (if b then v else u) :=
  fun ρ h d t p af g k₀ => by simp [execOp, h c _ hc, h x v hx, h y u hy, asBool, Result.andThen]
theorem e_pickT {c : Operand} (hc : ev l c = some (.bool true)) (hx : ev l x = some v) : Eg P l (.pick c x y) w v :=
  fun ρ h d t p af g k₀ => by simp [execOp, h c _ hc, h x v hx, asBool, Result.andThen]
theorem e_pickF {c : Operand} (hc : ev l c = some (.bool false)) (hy : ev l y = some v) : Eg P l (.pick c x y) w v :=
  fun ρ h d t p af g k₀ => by simp [execOp, h c _ hc, h y v hy, asBool, Result.andThen]
theorem e_ext {vs : Array Value} {i : Nat} (hx : ev l x = some (.tuple vs)) (hi : vs[i]? = some v) : Eg P l (.extract x i) w v :=
  fun ρ h d t p af g k₀ => by simp [execOp, h x _ hx, Instr.extract, hi, Result.andThen]

/-! ### 3. Addresses, loads, stores -/
theorem run_fieldAt {i off b o : Nat} [c : TField P T i off] : (Instr.fieldAt T (.pointer (some ⟨b, o, none⟩)) i).run P w = .ok (.pointer (some ⟨b, o + off, none⟩)) w := by
  have h := c.h
  unfold fieldOK at h
  cases hu : P.underlying T with
  | none => simp [hu] at h
  | some d =>
    cases d <;> simp [hu] at h
    rename_i fs
    cases hf : fs[i]? with
    | none => simp [hf] at h
    | some f =>
      simp only [hf] at h
      cases hi : P.info? f.type with
      | none => simp [hi] at h
      | some info =>
        simp only [hi, Bool.and_eq_true, Bool.not_eq_true'] at h
        have h1 := Nat.eq_of_beq_eq_true h.1
        have h2 := Nat.ne_of_beq_eq_false h.2
        simp [Instr.fieldAt, run_underlying hu, hf, Instr.sureAddr, fieldPlace, sizeOf, typeInfo, hi, h2, h1, add_at, Result.andThen]
theorem e_fld {i off b o : Nat} [TField P T i off] (hx : ev l x = some (.pointer (some ⟨b, o, none⟩))) : Eg P l (.fieldAddr T x i) w (.pointer (some ⟨b, o + off, none⟩)) :=
  fun ρ h d t p af g k₀ => by simp [execOp, h x _ hx, run_fieldAt, Result.andThen]
theorem e_ld {a : Addr} [TOne P T] (hx : ev l x = some (.pointer (some a))) (hc : w.cell? a = some v) : Eg P l (.load T x) w v :=
  fun ρ h d t p af g k₀ => by simp [execOp, h x _ hx, Instr.loadAt, Instr.sureAddr, loadVar, TOne.agg, run_load, hc, Result.andThen]
/-- cells in a row -/
def Cells (w : World) (b o : Nat) (cs : List Value) : Prop := ∀ j v, cs[j]? = some v → w.cell? ⟨b, o + j, none⟩ = some v
theorem Cells.nil {b o : Nat} : Cells w b o [] := fun j v h => by simp at h
theorem Cells.cons {b o : Nat} {c : Value} {cs : List Value} (h : w.cell? ⟨b, o, none⟩ = some c) (k : Cells w b (o + 1) cs) : Cells w b o (c :: cs) := fun j v hj => by
  cases j with
  | zero => simp at hj; subst hj; exact h
  | succ j => have := k j v (by simpa using hj); rw [show o + (j + 1) = o + 1 + j from by omega]; exact this
theorem e_ldn {b o k : Nat} {cs : List Value} [TAgg P T k] (hx : ev l x = some (.pointer (some ⟨b, o, none⟩))) (hl : cs.length = k) (hc : Cells w b o cs) : Eg P l (.load T x) w (.agg cs.toArray) :=
  fun ρ h d t p af g k₀ => by
    have := run_loadCells_list (P := P) (w := dn w k₀) ⟨b, o, none⟩ cs (fun j v hj => by rw [add_at]; exact hc j v hj)
    rw [hl] at this
    simp [execOp, h x _ hx, Instr.loadAt, Instr.sureAddr, loadVar, TAgg.agg (T := T), TAgg.size (T := T), this, Result.andThen]
theorem e_st {a : Addr} {u : Value} [TOne P T] (hx : ev l x = some (.pointer (some a))) (hy : ev l y = some v) (hv : v.oneCell' = true) (hc : w.cell? a = some u) (hf : w.frozen? a = false) :
    Es P l (.store T x y) w (w.setCell a v) :=
  fun ρ h d t p af g k₀ => by
    refine ⟨k₀, Nat.le_refl _, ?_⟩
    have hs : v.cells = #[v] := by cases v <;> first | rfl | cases hv
    have hadd : a.add 0 = a := by simp [Addr.add]
    simp [execOp, h x _ hx, h y v hy, Instr.storeAt, Instr.sureAddr, storeVar, hs, TOne.size, storeCells, hadd, run_store P (dn w k₀) a v .plain hv, stored, hc, hf, Result.andThen]
theorem e_idx {b o len cap e sz : Nat} {k : IntKind} {i : Int} [c : TSlice P T e sz] (hx : ev l x = some (.slice (some ⟨b, o, none⟩) len cap)) (hi : ev l y = some (.int k i)) (h0 : 0 ≤ i) (h1 : i < len) :
    Eg P l (.indexAddr T x y) w (.pointer (some ⟨b, o + i.toNat * sz, none⟩)) :=
  fun ρ h d t p af g k₀ => by
    simp [execOp, h x _ hx, h y _ hi, Instr.indexAt, asIntOf, run_underlying c.h, run_sizeOf c.s, h0, h1, add_at, Result.andThen]
theorem e_idxa {b o len e sz : Nat} {k : IntKind} {i : Int} [c : TArr P T len e sz] (hx : ev l x = some (.pointer (some ⟨b, o, none⟩))) (hi : ev l y = some (.int k i)) (h0 : 0 ≤ i) (h1 : i < len) :
    Eg P l (.indexAddr T x y) w (.pointer (some ⟨b, o + i.toNat * sz, none⟩)) :=
  fun ρ h d t p af g k₀ => by
    simp [execOp, h x _ hx, h y _ hi, Instr.indexAt, Instr.sureAddr, asIntOf, run_underlying c.h, run_sizeOf c.s, h0, h1, add_at, Result.andThen]
theorem e_idxAt {b o len cap e sz : Nat} {k : IntKind} {i : Int} [c : TSlice P T e sz] (o' : Nat) (hx : ev l x = some (.slice (some ⟨b, o, none⟩) len cap)) (hi : ev l y = some (.int k i)) (h0 : 0 ≤ i) (h1 : i < len) (ho : o + i.toNat * sz = o') :
    Eg P l (.indexAddr T x y) w (.pointer (some ⟨b, o', none⟩)) := ho ▸ e_idx hx hi h0 h1
theorem e_idxaAt {b o len e sz : Nat} {k : IntKind} {i : Int} [c : TArr P T len e sz] (o' : Nat) (hx : ev l x = some (.pointer (some ⟨b, o, none⟩))) (hi : ev l y = some (.int k i)) (h0 : 0 ≤ i) (h1 : i < len) (ho : o + i.toNat * sz = o') :
    Eg P l (.indexAddr T x y) w (.pointer (some ⟨b, o', none⟩)) := ho ▸ e_idxa hx hi h0 h1
theorem at_off {b o o' : Nat} (c : w.cell? ⟨b, o, none⟩ = some v) (h : o' = o) : w.cell? ⟨b, o', none⟩ = some v := h ▸ c
theorem e_alloc {u : Value} [c : TZero P T u] : Ev P l (.alloc T) w (.pointer (some ⟨w.heap.size, 0, none⟩)) (w.alloc (.cells u.cells T)) :=
  fun ρ h d t p af g k₀ => ⟨k₀, Nat.le_refl _, by simp [execOp, Instr.alloc, c.h, newVar, newRow, World.alloc_eq, Result.andThen]⟩
theorem e_box (hx : ev l x = some v) : Ev P l (.box T x) w (.pointer (some ⟨w.heap.size, 0, none⟩)) (w.alloc (.cells v.cells T)) :=
  fun ρ h d t p af g k₀ => ⟨k₀, Nat.le_refl _, by simp [execOp, h x _ hx, Instr.box, newVar, newRow, World.alloc_eq, Result.andThen]⟩

/-- cells behind a store -/
theorem cs_ne {a b : Addr} {u : Value} (c : w.cell? b = some v) (h : a ≠ b) : (w.setCell a u).cell? b = some v := by rw [World.cell?_setCell_other w a b u h]; exact c
theorem cs_eq {a : Addr} {u : Value} (c : w.cell? a = some v) : (w.setCell a u).cell? a = some u := World.cell?_setCell_same w a u c
theorem fs {a b : Addr} {u : Value} (c : w.frozen? b = false) : (w.setCell a u).frozen? b = false := by rw [World.frozen?_setCell]; exact c
theorem ab_b {b o b' o' : Nat} (h : b ≠ b') : (⟨b, o, none⟩ : Addr) ≠ ⟨b', o', none⟩ := fun e => h (congrArg Addr.block e)
theorem ab_o {b o b' o' : Nat} (h : o ≠ o') : (⟨b, o, none⟩ : Addr) ≠ ⟨b', o', none⟩ := fun e => h (congrArg Addr.off e)
theorem ca_new {c : Array Value} {t : TypeId} {i : Nat} (h : c[i]? = some v) : (w.alloc (.cells c t)).cell? ⟨w.heap.size, i, none⟩ = some v := by rw [World.cell?_alloc_new]; exact h
theorem ca_old {o : Obj} {a : Addr} (h : w.cell? a = some v) : (w.alloc o).cell? a = some v := by rw [World.cell?_alloc_lt w o a (World.block_lt_of_cell? w a h)]; exact h

/-! ### 4. Numbers, bools, strings -/
variable {i j : Int} {k : IntKind} {T' : TypeId}
section
variable (hx : ev l x = some (.int k i)) (hy : ev l y = some (.int k j))
include hx hy
theorem e_addw : Eg P l (.binOp .add T x y T') w (.int k (k.wrap (i + j))) := fun ρ h d t p af g k₀ => by
  simp [execOp, h x _ hx, h y _ hy, eqGuard, binOp, Op.intArith, Result.andThen]
theorem e_subw : Eg P l (.binOp .sub T x y T') w (.int k (k.wrap (i - j))) := fun ρ h d t p af g k₀ => by
  simp [execOp, h x _ hx, h y _ hy, eqGuard, binOp, Op.intArith, Result.andThen]
theorem e_mulw : Eg P l (.binOp .mul T x y T') w (.int k (k.wrap (i * j))) := fun ρ h d t p af g k₀ => by
  simp [execOp, h x _ hx, h y _ hy, eqGuard, binOp, Op.intArith, Result.andThen]
theorem e_quow (h0 : j ≠ 0) : Eg P l (.binOp .quo T x y T') w (.int k (k.wrap (i.tdiv j))) := fun ρ h d t p af g k₀ => by
  simp [execOp, h x _ hx, h y _ hy, eqGuard, binOp, Op.intDiv, h0, Result.andThen]
theorem e_remw (h0 : j ≠ 0) : Eg P l (.binOp .rem T x y T') w (.int k (i.tmod j)) := fun ρ h d t p af g k₀ => by
  simp [execOp, h x _ hx, h y _ hy, eqGuard, binOp, Op.intDiv, h0, Result.andThen]
theorem e_bits {op : BinOp} (ho : op = .and ∨ op = .or ∨ op = .xor ∨ op = .andNot) : Eg P l (.binOp op T x y T') w (.int k (bits op k i j)) := fun ρ h d t p af g k₀ => by
  rcases ho with rfl | rfl | rfl | rfl <;> simp [execOp, h x _ hx, h y _ hy, eqGuard, binOp, intBits_and, intBits_or, intBits_xor, intBits_andNot, Result.andThen]
theorem e_lss : Eg P l (.binOp .lss T x y T') w (.bool (decide (i < j))) := fun ρ h d t p af g k₀ => by
  simp [execOp, h x _ hx, h y _ hy, eqGuard, binOp, Op.intCmp, Result.andThen]
theorem e_leq : Eg P l (.binOp .leq T x y T') w (.bool (decide (i ≤ j))) := fun ρ h d t p af g k₀ => by
  simp [execOp, h x _ hx, h y _ hy, eqGuard, binOp, Op.intCmp, Result.andThen]
theorem e_gtr : Eg P l (.binOp .gtr T x y T') w (.bool (decide (j < i))) := fun ρ h d t p af g k₀ => by
  simp [execOp, h x _ hx, h y _ hy, eqGuard, binOp, Op.intCmp, Result.andThen]
theorem e_geq : Eg P l (.binOp .geq T x y T') w (.bool (decide (j ≤ i))) := fun ρ h d t p af g k₀ => by
  simp [execOp, h x _ hx, h y _ hy, eqGuard, binOp, Op.intCmp, Result.andThen]
theorem e_eql : Eg P l (.binOp .eql T x y T') w (.bool (decide (i = j))) := fun ρ h d t p af g k₀ => by
  have : (i == j) = decide (i = j) := by by_cases e : i = j <;> simp [e]
  simp [execOp, h x _ hx, h y _ hy, eqGuard, binOp, Op.intCmp, Result.andThen, this]
theorem e_neq : Eg P l (.binOp .neq T x y T') w (.bool (decide (i ≠ j))) := fun ρ h d t p af g k₀ => by
  have : (i != j) = decide (i ≠ j) := by by_cases e : i = j <;> simp [e, bne]
  simp [execOp, h x _ hx, h y _ hy, eqGuard, binOp, Op.intCmp, Result.andThen, this]
end
theorem e_shr {k' : IntKind} (hx : ev l x = some (.int k i)) (hy : ev l y = some (.int k' j)) (h0 : 0 ≤ j) (h1 : j ≤ k.bits) : Eg P l (.binOp .shr T x y T') w (.int k (i / 2 ^ j.toNat)) := fun ρ h d t p af g k₀ => by
  simp [execOp, h x _ hx, h y _ hy, eqGuard, binOp, shift_shr k k' i j h0 h1, Result.andThen]
theorem e_shl {k' : IntKind} (hx : ev l x = some (.int k i)) (hy : ev l y = some (.int k' j)) (h0 : 0 ≤ j) (h1 : j ≤ k.bits) : Eg P l (.binOp .shl T x y T') w (.int k (k.wrap (i * 2 ^ j.toNat))) := fun ρ h d t p af g k₀ => by
  simp [execOp, h x _ hx, h y _ hy, eqGuard, binOp, shift_shl k k' i j h0 h1, Result.andThen]
section
variable (hx : ev l x = some (.int .i64 i)) (hy : ev l y = some (.int .i64 j))
include hx hy
theorem e_add (h : -9223372036854775808 ≤ i + j ∧ i + j ≤ 9223372036854775807) : Eg P l (.binOp .add T x y T') w (.int .i64 (i + j)) := by
  have := e_addw (P := P) (w := w) (T := T) (T' := T') hx hy; rwa [IntWalk.i64_in _ h] at this
theorem e_sub (h : -9223372036854775808 ≤ i - j ∧ i - j ≤ 9223372036854775807) : Eg P l (.binOp .sub T x y T') w (.int .i64 (i - j)) := by
  have := e_subw (P := P) (w := w) (T := T) (T' := T') hx hy; rwa [IntWalk.i64_in _ h] at this
theorem e_mul (h : -9223372036854775808 ≤ i * j ∧ i * j ≤ 9223372036854775807) : Eg P l (.binOp .mul T x y T') w (.int .i64 (i * j)) := by
  have := e_mulw (P := P) (w := w) (T := T) (T' := T') hx hy; rwa [IntWalk.i64_in _ h] at this
end
theorem e_shr64 {k' : IntKind} (hx : ev l x = some (.int .i64 i)) (hy : ev l y = some (.int k' j)) (h0 : 0 ≤ j) (h1 : j ≤ 64) : Eg P l (.binOp .shr T x y T') w (.int .i64 (i / 2 ^ j.toNat)) := e_shr hx hy h0 h1
theorem e_quoP (hx : ev l x = some (.int .i64 i)) (hy : ev l y = some (.int .i64 j)) (h0 : 0 ≤ i) (h1 : i ≤ 9223372036854775807) (hj : 0 < j) : Eg P l (.binOp .quo T x y T') w (.int .i64 (i / j)) := by
  have h := e_quow (P := P) (w := w) (T := T) (T' := T') hx hy (by omega)
  have e : i.tdiv j = i / j := Int.tdiv_eq_ediv_of_nonneg h0
  have h2 : i / j ≤ i := Int.ediv_le_self _ h0
  have h3 : 0 ≤ i / j := Int.ediv_nonneg h0 (by omega)
  rw [e, IntWalk.i64_in _ (by omega)] at h
  exact h
theorem e_remP (hx : ev l x = some (.int k i)) (hy : ev l y = some (.int k j)) (h0 : 0 ≤ i) (hj : 0 < j) : Eg P l (.binOp .rem T x y T') w (.int k (i % j)) := by
  have h := e_remw (P := P) (w := w) (T := T) (T' := T') hx hy (by omega)
  have e : i.tmod j = i % j := Int.tmod_eq_emod_of_nonneg h0
  rw [e] at h
  exact h
theorem e_neg64 (hx : ev l x = some (.int .i64 i)) (h : -9223372036854775808 < i ∧ i ≤ 9223372036854775807) : Eg P l (.unOp .neg T x) w (.int .i64 (-i)) := fun ρ h' d t p af g k₀ => by
  have e : IntKind.i64.wrap (0 - i) = -i := by rw [IntWalk.i64_in _ (by omega)]; omega
  simp only [execOp, h' x _ hx, Op.unary, Op.intArith]
  rw [e]
  simp [Result.andThen]
theorem e_not {b : Bool} (hx : ev l x = some (.bool b)) : Eg P l (.unOp .not T x) w (.bool (!b)) := fun ρ h d t p af g k₀ => by
  simp [execOp, h x _ hx, Op.unary, Result.andThen]
theorem e_neg (hx : ev l x = some (.int k i)) : Eg P l (.unOp .neg T x) w (.int k (k.wrap (0 - i))) := fun ρ h d t p af g k₀ => by
  simp [execOp, h x _ hx, Op.unary, Op.intArith, Result.andThen]
section
variable {s s' : ByteArray} (hx : ev l x = some (.string s)) (hy : ev l y = some (.string s'))
include hx hy
theorem e_seq : Eg P l (.binOp .eql T x y T') w (.bool (decide (s = s'))) := fun ρ h d t p af g k₀ => by
  have : (s.toList == s'.toList) = decide (s = s') := by rw [← beq_toListBytes, Bool.eq_iff_iff, MapKept.bytes_beq]; simp
  simp [execOp, h x _ hx, h y _ hy, eqGuard, binOp, Op.stringOp, Result.andThen, this]
theorem e_sne : Eg P l (.binOp .neq T x y T') w (.bool (decide (s ≠ s'))) := fun ρ h d t p af g k₀ => by
  have : (s.toList == s'.toList) = decide (s = s') := by rw [← beq_toListBytes, Bool.eq_iff_iff, MapKept.bytes_beq]; simp
  simp [execOp, h x _ hx, h y _ hy, eqGuard, binOp, Op.stringOp, Result.andThen, this, bne]
theorem e_sgt : Eg P l (.binOp .gtr T x y T') w (.bool (!(Op.bytesLess s.toList s'.toList || s.toList == s'.toList))) := fun ρ h d t p af g k₀ => by
  simp [execOp, h x _ hx, h y _ hy, eqGuard, binOp, Op.stringOp, Result.andThen]
theorem e_scat (hb : s.size + s'.size ≤ 9223372036854775807) : Eg P l (.binOp .add T x y T') w (.string (s ++ s')) := fun ρ h d t p af g k₀ => by
  have : ¬ (9223372036854775807 : Int) < s.size + s'.size := by omega
  simp [this, execOp, h x _ hx, h y _ hy, eqGuard, binOp, Op.stringOp, Result.andThen]
theorem e_slt : Eg P l (.binOp .lss T x y T') w (.bool (Op.bytesLess s.toList s'.toList)) := fun ρ h d t p af g k₀ => by
  simp [execOp, h x _ hx, h y _ hy, eqGuard, binOp, Op.stringOp, Result.andThen]
end
theorem e_pnil {p : Option Addr} {e : TypeId} [c : TPtr P T e] (hx : ev l x = some (.pointer p)) (hy : ev l y = some (.pointer none)) : Eg P l (.binOp .eql T x y T') w (.bool p.isNone) := fun ρ h d t p' af g k₀ => by
  have hp : P.underlying T = some (.pointer (P.pointee T)) := by simp [Program.pointee, c.h]
  simp [execOp, h x _ hx, h y _ hy, eqGuard, Result.andThen, run_eql_pointer_nil (dn w k₀) T p hp]
theorem e_pnnil {p : Option Addr} {e : TypeId} [c : TPtr P T e] (hx : ev l x = some (.pointer p)) (hy : ev l y = some (.pointer none)) : Eg P l (.binOp .neq T x y T') w (.bool p.isSome) := fun ρ h d t p' af g k₀ => by
  have hp : P.underlying T = some (.pointer (P.pointee T)) := by simp [Program.pointee, c.h]
  have : (!p.isNone) = p.isSome := by cases p <;> rfl
  simp [execOp, h x _ hx, h y _ hy, eqGuard, Result.andThen, run_neq_pointer_nil (dn w k₀) T p hp, this]

theorem Eg.to {op : Op} {v u : Value} (h : Eg P l op w v) (e : v = u) : Eg P l op w u := e ▸ h
/-- a test that is decided -/
theorem yes {op : Op} {p : Prop} [Decidable p] (h : Eg P l op w (.bool (decide p))) (hp : p) : Eg P l op w (.bool true) := h.to (by rw [decide_eq_true hp])
theorem nay {op : Op} {p : Prop} [Decidable p] (h : Eg P l op w (.bool (decide p))) (hp : ¬ p) : Eg P l op w (.bool false) := h.to (by rw [decide_eq_false hp])

/-! ### 5. Calls, len, maps -/
theorem e_call {f : FuncId} {fo : Operand} {cap : Array Value} {xs : List Operand} {vs : List Value} {at_ : Array TypeId} [c : TFn P f] (hf : ev l fo = some (.func (.func f) #[] cap)) (hs : evs l xs = some vs) :
    Ec P l (.call ⟨.value fo, xs.toArray, at_⟩) f (vs.toArray ++ cap) := fun ρ h d t p af g w => by
  have h1 := h.all hs
  simp [execOp, resolve, h fo _ hf, Deferred.ofValue, invoke, c.h, Result.andThen, h1]
/-- a call of a function that is named -/
theorem e_fn {f : FuncId} {xs : List Operand} {vs : List Value} {at_ : Array TypeId} [c : TFn P f] (hs : evs l xs = some vs) :
    Ec P l (.call ⟨.value (.func f), xs.toArray, at_⟩) f vs.toArray := fun ρ h d t p af g w => by
  have := e_call (P := P) (l := l) (fo := .func f) (cap := #[]) (at_ := at_) rfl hs ρ h d t p af g w
  simpa using this
theorem e_len {T : TypeId} {e sz len cap : Nat} {a : Option Addr} [c : TSlice P T e sz] (hx : ev l x = some (.slice a len cap)) :
    Eg P l (.call ⟨.builtin .len, #[x], #[T]⟩) w (.int .i64 len) := fun ρ h d t p af g k₀ => by
  simp [execOp, resolve, invoke, builtin, h x _ hx, Builtin.len_, run_underlying c.h, goInt, Result.andThen]
theorem e_lens {T : TypeId} {s : ByteArray} [c : TStr P T] (hx : ev l x = some (.string s)) :
    Eg P l (.call ⟨.builtin .len, #[x], #[T]⟩) w (.int .i64 s.size) := fun ρ h d t p af g k₀ => by
  simp [execOp, resolve, invoke, builtin, h x _ hx, Builtin.len_, run_underlying c.h, goInt, Result.andThen]
theorem e_lenm {T : TypeId} {k e r : Nat} {m : KV} [c : TMap P T k e] (hx : ev l x = some (.map (some r))) (hm : SMap w r m) :
    Eg P l (.call ⟨.builtin .len, #[x], #[T]⟩) w (.int .i64 m.length) := fun ρ h d t p af g k₀ => by
  simp [execOp, resolve, invoke, builtin, h x _ hx, SMap.len (w := dn w k₀) (ty := t) hm c.h, Result.andThen]
theorem e_look {k e r : Nat} {m : KV} {u : Value} {s : ByteArray} [c : TMap P T k e] [z : TZero P e u] (hx : ev l x = some (.map (some r))) (hy : ev l y = some (.string s)) (hm : SMap w r m) :
    Eg P l (.lookup T x y false) w ((get m s).getD u) := fun ρ h d t p af g k₀ => by
  simp [execOp, h x _ hx, h y _ hy, SMap.look (w := dn w k₀) hm c.h c.s (z.h _) s, Result.andThen]
theorem e_lk {k e r : Nat} {m : KV} {u v : Value} {s : ByteArray} [c : TMap P T k e] [z : TZero P e u] (hx : ev l x = some (.map (some r))) (hy : ev l y = some (.string s)) (hm : SMap w r m) (hg : get m s = some v) :
    Eg P l (.lookup T x y false) w v := (e_look hx hy hm).to (by rw [hg]; rfl)
theorem e_lkn {k e r : Nat} {m : KV} {u : Value} {s : ByteArray} [c : TMap P T k e] [z : TZero P e u] (hx : ev l x = some (.map (some r))) (hy : ev l y = some (.string s)) (hm : SMap w r m) (hg : get m s = none) :
    Eg P l (.lookup T x y false) w u := (e_look hx hy hm).to (by rw [hg]; rfl)
theorem e_lookok {k e r : Nat} {m : KV} {u : Value} {s : ByteArray} [c : TMap P T k e] [z : TZero P e u] (hx : ev l x = some (.map (some r))) (hy : ev l y = some (.string s)) (hm : SMap w r m) :
    Eg P l (.lookup T x y true) w (.tuple #[(get m s).getD u, .bool (get m s).isSome]) := fun ρ h d t p af g k₀ => by
  simp [execOp, h x _ hx, h y _ hy, SMap.look_ok (w := dn w k₀) hm c.h c.s (z.h _) s, Result.andThen]
/-- what an update of a map puts back into its block -/
def Upd (P : Program) (T : TypeId) (w : World) (r : Nat) (s : ByteArray) (v : Value) (o : Obj) : Prop := ∀ j, (Instr.mapUpdate T (.map (some r)) (.string s) v).run P (dn w j) = .ok () (dn (setBlock w r o) j)
theorem upd_ex {k e r : Nat} {m : KV} [c : TMap P T k e] (hm : SMap w r m) (s : ByteArray) (v : Value) : ∃ o, Upd P T w r s v o ∧ SMap (setBlock w r o) r (put m s v) := hm.update (P := P) c.h c.s s v
theorem e_upd {r : Nat} {s : ByteArray} {o : Obj} (hx : ev l x = some (.map (some r))) (hy : ev l y = some (.string s)) (hz : ev l z = some v) (h1 : Upd P T w r s v o) : Es P l (.mapUpdate T x y z) w (setBlock w r o) :=
  fun ρ h d t p af g k₀ => ⟨k₀, Nat.le_refl _, by simp [execOp, h x _ hx, h y _ hy, h z _ hz, h1 k₀, Result.andThen]⟩
def Dele (P : Program) (T K : TypeId) (w : World) (r : Nat) (s : ByteArray) (o : Obj) : Prop := ∀ ty j, (Builtin.delete_ #[T, K] ty #[.map (some r), .string s]).run P (dn w j) = .ok (.tuple #[]) (dn (setBlock w r o) j)
theorem dele_ex {k e r : Nat} {m : KV} [c : TMap P T k e] (hm : SMap w r m) (s : ByteArray) : ∃ o, Dele P T k w r s o ∧ SMap (setBlock w r o) r (del m s) := by
  obtain ⟨o, h1, h2⟩ := hm.delete (P := P) (ty := 0) c.h c.s s
  exact ⟨o, fun ty j => h1 j, h2⟩
theorem e_del {k r : Nat} {s : ByteArray} {o : Obj} (hx : ev l x = some (.map (some r))) (hy : ev l y = some (.string s)) (h1 : Dele P T k w r s o) : Ev P l (.call ⟨.builtin .delete, #[x, y], #[T, k]⟩) w (.tuple #[]) (setBlock w r o) :=
  fun ρ h d t p af g k₀ => ⟨k₀, Nat.le_refl _, by simp [execOp, resolve, invoke, builtin, h x _ hx, h y _ hy, h1 t k₀, Result.andThen]⟩
theorem e_makeMap : Ev P l (.makeMap T none) w (.map (some w.heap.size)) (w.alloc (.map #[] 0)) := fun ρ h d t p af g k₀ => by
  refine ⟨k₀, Nat.le_refl _, ?_⟩
  simp [execOp, Instr.makeMap, World.alloc_eq, Result.andThen]
end Go.Proofs.Ytogfllhbgkeinaa.Eng
