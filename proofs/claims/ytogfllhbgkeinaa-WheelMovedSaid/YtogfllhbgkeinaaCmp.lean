/-
  == of flat structs (texts, numbers, bools), of bools, of a function value with nil; the making of a function value.
-/
import Derived.Test.YtogfllhbgkeinaaMap
set_option linter.unusedVariables false
set_option linter.unusedSimpArgs false
namespace Go.Proofs.Ytogfllhbgkeinaa.Eng
open Go.RowKit Base
variable {P : Program} {l : Fr} {w : World} {T T' : TypeId} {x y : Operand}

inductive FK
  | i (k : IntKind)
  | s
  | b
def fitK : FK → Value → Bool
  | .i k, .int k' _ => decide (k = k')
  | .s, .string _ => true
  | .b, .bool _ => true
  | _, _ => false
def fitL : List FK → List Value → Bool
  | [], [] => true
  | k :: ks, v :: vs => fitK k v && fitL ks vs
  | _, _ => false
def eqV : Value → Value → Bool
  | .int _ a, .int _ b => decide (a = b)
  | .string a, .string b => decide (a = b)
  | .bool a, .bool b => decide (a = b)
  | _, _ => false
def eqL : List Value → List Value → Bool
  | [], [] => true
  | x :: xs, y :: ys => eqV x y && eqL xs ys
  | _, _ => false
def descK (P : Program) (t : TypeId) : FK → Bool
  | .i k => match P.underlying t with
    | some (.int _) => true
    | _ => false
  | .s => match P.underlying t with
    | some .string => true
    | _ => false
  | .b => match P.underlying t with
    | some .bool => true
    | _ => false
def flatFs (P : Program) : List Field → List FK → Nat → Bool
  | [], [], _ => true
  | f :: fs, k :: ks, i => (f.name != "_") && Nat.beq f.offset i && descK P f.type k && flatFs P fs ks (i + 1)
  | _, _, _ => false
class TFlat (P : Program) (T : TypeId) (ks : outParam (List FK)) : Prop where
  fs : P.underlying T = some (.struct (P.fieldsOf T))
  flat : flatFs P (P.fieldsOf T).toList ks 0 = true
  stood : P.stoodInHeld T = false
theorem run_eqK {d : Nat} {t : TypeId} {k : FK} {a b : Value} (hd : descK P t k = true) (ha : fitK k a = true) (hb : fitK k b = true) : (Op.equalIn (d + 1) t a b).run P w = .ok (eqV a b) w := by
  cases k with
  | i k =>
    cases a <;> simp [fitK] at ha
    cases b <;> simp [fitK] at hb
    subst ha; subst hb
    unfold descK at hd
    cases hu : P.underlying t with
    | none => simp [hu] at hd
    | some u =>
      cases u <;> simp [hu] at hd
      rename_i x y _ 
      rw [run_equalIn_int (P := P) w d t _ _ _ _ hu]
      simp only [eqV]
      congr 1
  | s =>
    cases a <;> simp [fitK] at ha
    cases b <;> simp [fitK] at hb
    unfold descK at hd
    cases hu : P.underlying t with
    | none => simp [hu] at hd
    | some u =>
      cases u <;> simp [hu] at hd
      rename_i s s'
      rw [run_equalIn_string (P := P) w d t _ _ hu]
      simp only [eqV]
      congr 1
      rw [← beq_toListBytes, Bool.eq_iff_iff, MapKept.bytes_beq]; simp
  | b =>
    cases a <;> simp [fitK] at ha
    cases b <;> simp [fitK] at hb
    unfold descK at hd
    cases hu : P.underlying t with
    | none => simp [hu] at hd
    | some u =>
      cases u <;> simp [hu] at hd
      rw [run_equalIn_bool' (P := P) w d t _ _ hu]
      simp only [eqV]
      congr 1
theorem run_part_flat {t : TypeId} {k : FK} {i : Nat} {xs : Array Value} {v : Value} (hd : descK P t k = true) (h : xs[i]? = some v) : (part t xs i).run P w = .ok v w := by
  have ha : (isAgg t).run P w = .ok false w := by
    unfold descK at hd
    cases k <;> cases hu : P.underlying t <;> simp only [hu] at hd <;> try (cases hd; done)
    all_goals rename_i u; cases u <;> simp at hd <;> simp [isAgg, run_underlying hu, Result.andThen]
  simp [part, ha, h, Result.andThen]
theorem run_eqFs {d : Nat} {X Y : Array Value} : ∀ (fs : List Field) (ks : List FK) (i : Nat) (xs ys : List Value), flatFs P fs ks i = true → fitL ks xs = true → fitL ks ys = true → (∀ j v, xs[j]? = some v → X[i + j]? = some v) → (∀ j v, ys[j]? = some v → Y[i + j]? = some v) →
    (Op.eqFields (d + 1) X Y fs).run P w = .ok (eqL xs ys) w
  | [], [], _, [], [], _, _, _, _, _ => by simp [Op.eqFields, eqL]
  | [], [], _, _ :: _, _, _, h, _, _, _ => by simp [fitL] at h
  | [], [], _, [], _ :: _, _, _, h, _, _ => by simp [fitL] at h
  | [], _ :: _, _, _, _, h, _, _, _, _ => by simp [flatFs] at h
  | _ :: _, [], _, _, _, h, _, _, _, _ => by simp [flatFs] at h
  | _ :: _, _ :: _, _, [], _, _, h, _, _, _ => by simp [fitL] at h
  | _ :: _, _ :: _, _, _ :: _, [], _, _, h, _, _ => by simp [fitL] at h
  | f :: fs, k :: ks, i, x :: xs, y :: ys, hf, hx, hy, gx, gy => by
    simp only [flatFs, fitL, Bool.and_eq_true] at hf hx hy
    obtain ⟨⟨⟨h1, h2⟩, h3⟩, h4⟩ := hf
    have ho := Nat.eq_of_beq_eq_true h2
    have hn : f.name ≠ "_" := by simpa using h1
    have px := run_part_flat (w := w) (xs := X) h3 (gx 0 x rfl)
    have py := run_part_flat (w := w) (xs := Y) h3 (gy 0 y rfl)
    simp only [Nat.add_zero, ← ho] at px py
    have ih := run_eqFs (d := d) fs ks (i + 1) xs ys h4 hx.2 hy.2 (fun j v hj => by have := gx (j + 1) v (by simpa using hj); rwa [show i + 1 + j = i + (j + 1) by omega]) (fun j v hj => by have := gy (j + 1) v (by simpa using hj); rwa [show i + 1 + j = i + (j + 1) by omega])
    simp only [Op.eqFields, if_pos hn, Sem.run_bind, px, py, Result.andThen_ok, run_eqK (w := w) (d := d) h3 hx.1 hy.1, eqL]
    cases eqV x y <;> simp [ih]
theorem run_steq {ks : List FK} {xs ys : List Value} [c : TFlat P T ks] (hx : fitL ks xs = true) (hy : fitL ks ys = true) : (Op.equalIn 10000 T (.agg xs.toArray) (.agg ys.toArray)).run P w = .ok (eqL xs ys) w := by
  show (Op.equalIn (9999 + 1) T _ _).run P w = _
  rw [run_equalIn_struct w 9999 T _ _ c.fs c.stood]
  exact run_eqFs _ ks 0 xs ys c.flat hx hy (fun j v h => by simpa using h) (fun j v h => by simpa using h)
theorem e_steq {ks : List FK} {xs ys : List Value} [c : TFlat P T ks] [g : TPlainEq P T] (hx : ev l x = some (.agg xs.toArray)) (hy : ev l y = some (.agg ys.toArray)) (fx : fitL ks xs = true) (fy : fitL ks ys = true) :
    Eg P l (.binOp .eql T x y T') w (.bool (eqL xs ys)) := fun ρ h d t p af q k₀ => by
  have := run_steq (P := P) (T := T) (w := dn w k₀) fx fy
  simp [execOp, h x _ hx, h y _ hy, run_eqGuard_agg (P := P) (dn w k₀) .eql T x y _ _ g.h, run_eql_struct, this, Result.andThen]
theorem e_stne {ks : List FK} {xs ys : List Value} [c : TFlat P T ks] [g : TPlainEq P T] (hx : ev l x = some (.agg xs.toArray)) (hy : ev l y = some (.agg ys.toArray)) (fx : fitL ks xs = true) (fy : fitL ks ys = true) :
    Eg P l (.binOp .neq T x y T') w (.bool (!eqL xs ys)) := fun ρ h d t p af q k₀ => by
  have := run_steq (P := P) (T := T) (w := dn w k₀) fx fy
  simp [execOp, h x _ hx, h y _ hy, run_eqGuard_agg (P := P) (dn w k₀) .neq T x y _ _ g.h, run_neq_struct, this, Result.andThen]
class TBool (P : Program) (T : TypeId) : Prop where h : P.underlying T = some .bool
class TFunc (P : Program) (T : TypeId) : Prop where h : ∃ a b c, P.underlying T = some (.func a b c)
theorem run_beq [c : TBool P T] {a b : Bool} : (Op.equalIn Op.maxDepth T (.bool a) (.bool b)).run P w = .ok (decide (a = b)) w := by
  show (Op.equalIn (9999 + 1) T _ _).run P w = _
  rw [run_equalIn_bool' (P := P) w 9999 T _ _ c.h]
  congr 1
theorem e_beql {a b : Bool} [c : TBool P T] (hx : ev l x = some (.bool a)) (hy : ev l y = some (.bool b)) : Eg P l (.binOp .eql T x y T') w (.bool (decide (a = b))) := fun ρ h d t p af q k₀ => by
  have := run_beq (P := P) (T := T) (w := dn w k₀) (a := a) (b := b)
  simp [execOp, h x _ hx, h y _ hy, eqGuard, binOp, Op.equal, this, Result.andThen]
theorem e_bneq {a b : Bool} [c : TBool P T] (hx : ev l x = some (.bool a)) (hy : ev l y = some (.bool b)) : Eg P l (.binOp .neq T x y T') w (.bool (decide (a ≠ b))) := fun ρ h d t p af q k₀ => by
  have := run_beq (P := P) (T := T) (w := dn w k₀) (a := a) (b := b)
  simp [execOp, h x _ hx, h y _ hy, eqGuard, binOp, Op.equal, this, Result.andThen]
theorem e_fneql {f : Fn} {c1 c2 : Array Value} [c : TFunc P T] (hx : ev l x = some (.func f c1 c2)) (hy : ev l y = some .nilFunc) : Eg P l (.binOp .eql T x y T') w (.bool false) := fun ρ h d t p af q k₀ => by
  obtain ⟨u1, u2, u3, hu⟩ := c.h
  have : (Op.equalIn Op.maxDepth T (.func f c1 c2) .nilFunc).run P (dn w k₀) = .ok false (dn w k₀) := by
    have key : ∀ d, (Op.equalIn (d + 1) T (.func f c1 c2) .nilFunc).run P (dn w k₀) = .ok false (dn w k₀) := fun d => by simp [Op.equalIn, run_underlying hu, Result.andThen]
    exact key 9999
  simp [execOp, h x _ hx, h y _ hy, eqGuard, binOp, Op.equal, this, Result.andThen]
theorem e_fnneq {f : Fn} {c1 c2 : Array Value} [c : TFunc P T] (hx : ev l x = some (.func f c1 c2)) (hy : ev l y = some .nilFunc) : Eg P l (.binOp .neq T x y T') w (.bool true) := fun ρ h d t p af q k₀ => by
  obtain ⟨u1, u2, u3, hu⟩ := c.h
  have : (Op.equalIn Op.maxDepth T (.func f c1 c2) .nilFunc).run P (dn w k₀) = .ok false (dn w k₀) := by
    have key : ∀ d, (Op.equalIn (d + 1) T (.func f c1 c2) .nilFunc).run P (dn w k₀) = .ok false (dn w k₀) := fun d => by simp [Op.equalIn, run_underlying hu, Result.andThen]
    exact key 9999
  simp [execOp, h x _ hx, h y _ hy, eqGuard, binOp, Op.equal, this, Result.andThen]
theorem e_makeFunc {f : Fn} {xs ys : List Operand} {vs us : List Value} (hx : evs l xs = some vs) (hy : evs l ys = some us) : Eg P l (.makeFunc f xs.toArray ys.toArray) w (.func f vs.toArray us.toArray) := fun ρ h d t p af q k₀ => by
  simp [execOp, Instr.makeFunc, h.all hx, h.all hy, Result.andThen]

/-! ### Lists of elements of more than one cell -/
theorem flat_elem {α : Type} {enc : α → List Value} {k : Nat} (hk : ∀ x, (enc x).length = k) : ∀ {L : List α} {i : Nat} {x : α}, L[i]? = some x → ∀ {j : Nat} {v : Value}, (enc x)[j]? = some v → (L.flatMap enc)[i * k + j]? = some v
  | [], i, x, h, _, _, _ => by simp at h
  | y :: L, 0, x, h, j, v, hj => by
    simp only [List.getElem?_cons_zero, Option.some.injEq] at h
    subst h
    rw [List.flatMap_cons, Nat.zero_mul, Nat.zero_add, List.getElem?_append_left (List.getElem?_eq_some_iff.1 hj).1]; exact hj
  | y :: L, i + 1, x, h, j, v, hj => by
    rw [List.flatMap_cons, List.getElem?_append_right (by rw [hk, Nat.add_mul]; omega), hk, show (i + 1) * k + j - k = i * k + j by rw [Nat.add_mul]; omega]
    exact flat_elem hk (by simpa using h) hj
theorem flat_length {α : Type} {enc : α → List Value} {k : Nat} (hk : ∀ x, (enc x).length = k) : ∀ (L : List α), (L.flatMap enc).length = L.length * k
  | [] => by simp
  | x :: L => by rw [List.flatMap_cons, List.length_append, hk, flat_length hk L, List.length_cons, Nat.add_mul, Nat.one_mul, Nat.add_comm]
/-- the cells of one element -/
theorem Sl.elem {α : Type} {enc : α → List Value} {e sz : Nat} {a : Option Addr} {len cap : Nat} {b : Option Nat} {L : List α} (hk : ∀ x, (enc x).length = sz) (h : Sl w e sz a len cap (L.flatMap enc) b) (hl : 0 < len) {kb off : Nat} (ha : a = some ⟨kb, off, none⟩) {i : Nat} {x : α} (hx : L[i]? = some x) : Cells w kb (off + i * sz) (enc x) := fun j v hj => by
  obtain ⟨kb', off', ha', _, hc, _⟩ := h.pos hl
  rw [ha] at ha'
  injection ha' with ha'
  injection ha' with h1 h2
  subst h1; subst h2
  have := hc _ _ (flat_elem hk hx hj)
  rw [Nat.add_assoc]; exact this
end Go.Proofs.Ytogfllhbgkeinaa.Eng
