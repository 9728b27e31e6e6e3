/-
  What comes in, opened: a flat struct's cells; a list of elements and its cells.
-/
import Derived.Test.YtogfllhbgkeinaaCmp
import Derived.ChangeSlices
import Derived.Carry
set_option linter.unusedVariables false
set_option linter.unusedSimpArgs false
namespace Go.Proofs.Ytogfllhbgkeinaa.Open
open Go.RowKit Base Eng
variable {H : Type} {enc : TypeId × Value → H} {P : Program} {w : World} {base : Nat} {spare : Nat → Bool} {held : Bool}

def I64' (n : Int) : Prop := -9223372036854775808 ≤ n ∧ n ≤ 9223372036854775807
theorem i64_wf {n : Int} (h : (Lit.int .i64 n).wf = true) : I64' n := by
  simpa [Lit.wf, IntKind.min, IntKind.max, IntKind.signed, IntKind.bits, I64'] using h
def descS (P : Program) (t : TypeId) : FK → Bool
  | .i k => match P.underlying t with
    | some (.int k') => decide (k = k')
    | _ => false
  | .s => match P.underlying t with
    | some .string => true
    | _ => false
  | .b => match P.underlying t with
    | some .bool => true
    | _ => false
def flatS (P : Program) : List Field → List FK → Nat → Bool
  | [], [], _ => true
  | f :: fs, k :: ks, i => Nat.beq f.offset i && Nat.beq (P.cellsOf f.type) 1 && descS P f.type k && flatS P fs ks (i + 1)
  | _, _, _ => false
/-- a number that fits, a text that is no longer than it may be -/
def Fine : Value → Prop
  | .int .i64 n => I64' n
  | .string s => s.size ≤ maxLen
  | _ => True
theorem open_one {t : TypeId} {k : FK} {m : Nat} {cs : List Value} {x : DataW H × List MemPlace} (hd : descS P t k = true) (h : DataW.trod enc P w base spare held m t cs = some x) : ∃ v, cs = [v] ∧ fitK k v = true ∧ Fine v := by
  cases k with
  | i k =>
    unfold descS at hd
    cases hu : P.underlying t with
    | none => simp [hu] at hd
    | some u =>
      cases u <;> simp [hu] at hd
      subst hd
      obtain ⟨n, h1, _, h3⟩ := DataW.trod_int hu h
      refine ⟨_, h1, by simp [fitK], ?_⟩
      cases k <;> first | exact trivial | exact i64_wf h3
  | s =>
    unfold descS at hd
    cases hu : P.underlying t with
    | none => simp [hu] at hd
    | some u =>
      cases u <;> simp [hu] at hd
      obtain ⟨s, h1, _, h3⟩ := DataW.trod_string hu h
      exact ⟨_, h1, rfl, h3⟩
  | b =>
    unfold descS at hd
    cases hu : P.underlying t with
    | none => simp [hu] at hd
    | some u =>
      cases u <;> simp [hu] at hd
      obtain ⟨s, h1, _⟩ := DataW.trod_bool hu h
      exact ⟨_, h1, rfl, trivial⟩
theorem open_fs {n : Nat} {CS : List Value} : ∀ (fs : List Field) (ks : List FK) (i : Nat), flatS P fs ks i = true → CS.length = i + ks.length → (∀ f ∈ fs, ∃ y, DataW.trod enc P w base spare held n f.type ((CS.drop f.offset).take (P.cellsOf f.type)) = some y) →
    fitL ks (CS.drop i) = true ∧ ∀ v ∈ CS.drop i, Fine v
  | [], [], i, _, hl, _ => by
    have : CS.drop i = [] := List.drop_eq_nil_of_le (by simp at hl; omega)
    rw [this]; exact ⟨rfl, by simp⟩
  | [], _ :: _, _, h, _, _ => by simp [flatS] at h
  | _ :: _, [], _, h, _, _ => by simp [flatS] at h
  | f :: fs, k :: ks, i, h, hl, hy => by
    simp only [flatS, Bool.and_eq_true] at h
    obtain ⟨⟨⟨h1, h2⟩, h3⟩, h4⟩ := h
    obtain ⟨y, hy0⟩ := hy f List.mem_cons_self
    rw [Nat.eq_of_beq_eq_true h1, Nat.eq_of_beq_eq_true h2] at hy0
    obtain ⟨v, e1, e2, e3⟩ := open_one h3 hy0
    simp only [List.length_cons] at hl
    have hi : i < CS.length := by omega
    have hv : CS.drop i = v :: CS.drop (i + 1) := by
      have e0 := List.drop_eq_getElem_cons hi
      rw [e0, List.take_succ_cons] at e1
      injection e1 with e1 _
      rw [e0, e1]
    obtain ⟨g1, g2⟩ := open_fs fs ks (i + 1) h4 (by omega) fun g hg => hy g (List.mem_cons_of_mem _ hg)
    rw [hv]
    refine ⟨by simp [fitL, e2, g1], fun u hu => ?_⟩
    rcases List.mem_cons.1 hu with rfl | hu
    · exact e3
    · exact g2 u hu
/-- a flat struct -/
theorem open_flat {T : TypeId} {fs : Array Field} {ks : List FK} {m : Nat} {cs : List Value} {x : DataW H × List MemPlace} (ht : P.underlying T = some (.struct fs)) (hf : flatS P fs.toList ks 0 = true) (hc : P.cellsOf T = ks.length)
    (h : DataW.trod enc P w base spare held m T cs = some x) : fitL ks cs = true ∧ ∀ v ∈ cs, Fine v := by
  obtain ⟨xs, n, _, _, h1, h2, h3⟩ := DataW.trod_struct ht h
  have := open_fs (CS := cs) (n := n) fs.toList ks 0 hf (by rw [h1, hc]; simp) fun f hfm => by
    obtain ⟨i, hi⟩ := List.getElem?_of_mem hfm
    have hi' : fs[i]? = some f := by simpa using hi
    have hlt : i < xs.length := by rw [h2]; exact (Array.getElem?_eq_some_iff.1 hi').1
    exact ⟨xs[i], by rw [h3 i f hi', List.getElem?_eq_getElem hlt]⟩
  simpa using this
theorem fit_length : ∀ {ks : List FK} {cs : List Value}, fitL ks cs = true → cs.length = ks.length
  | [], [], _ => rfl
  | [], _ :: _, h => by simp [fitL] at h
  | _ :: _, [], h => by simp [fitL] at h
  | k :: ks, c :: cs, h => by simp only [fitL, Bool.and_eq_true] at h; simp [fit_length h.2]
theorem fit_cons {k : FK} {ks : List FK} {el : List Value} (h : fitL (k :: ks) el = true) : ∃ v vs, el = v :: vs ∧ fitK k v = true ∧ fitL ks vs = true := by
  cases el with
  | nil => simp [fitL] at h
  | cons v vs => simp only [fitL, Bool.and_eq_true] at h; exact ⟨v, vs, rfl, h⟩
theorem fit_nil {el : List Value} (h : fitL [] el = true) : el = [] := by
  cases el with
  | nil => rfl
  | cons v vs => simp [fitL] at h
theorem fit_i {k : IntKind} {v : Value} (h : fitK (.i k) v = true) : ∃ n, v = .int k n := by
  cases v <;> simp [fitK] at h
  exact ⟨_, by rw [h]⟩
theorem fit_s {v : Value} (h : fitK .s v = true) : ∃ s, v = .string s := by
  cases v <;> simp [fitK] at h
  exact ⟨_, rfl⟩
theorem fit_b {v : Value} (h : fitK .b v = true) : ∃ b, v = .bool b := by
  cases v <;> simp [fitK] at h
  exact ⟨_, rfl⟩
/-- a list: its elements' cells -/
theorem open_list {t e : TypeId} {m : Nat} {cs : List Value} {x : DataW H × List MemPlace} {k : Nat} (ht : P.underlying t = some (.slice e)) (hk : P.cellsOf e = k) (h : DataW.trod enc P w base spare held m t cs = some x) :
    cs = [.slice none 0 0] ∨ ∃ (a : Addr) (len cap : Nat) (els : List (List Value)), cs = [.slice (some a) len cap] ∧ len ≤ cap ∧ cap ≤ maxLen ∧ els.length = len ∧
      ∀ (i : Nat) el, els[i]? = some el → el.length = k ∧ (∃ n y, DataW.trod enc P w base spare held n e el = some y) ∧ ∀ j v, el[j]? = some v → w.cell? (a.add (i * k + j)) = some v := by
  rcases DataW.trod_slice ht h with ⟨h0, _⟩ | ⟨a, len, cap, elems, rest, n, _, h1, _, hb, hl, hm, hlen, hel, _⟩
  · exact .inl h0
  refine .inr ⟨a, len, cap, (List.range len).map fun i => (w.cells? base (a.add (i * k)) k).getD [], h1, hl, hm, by simp, fun i el hi => ?_⟩
  rw [List.getElem?_map] at hi
  have hil : i < len := by
    rcases Nat.lt_or_ge i len with g | g
    · exact g
    · rw [List.getElem?_eq_none (by simpa using g)] at hi; cases hi
  rw [List.getElem?_range hil] at hi
  simp only [Option.map_some, Option.some.injEq] at hi
  have h2 := hel i hil
  rw [hk, List.getElem?_eq_getElem (by omega), Option.bind_eq_some_iff] at h2
  obtain ⟨cs', h3, h4⟩ := h2
  rw [h3] at hi
  simp only [Option.getD_some] at hi
  subst hi
  obtain ⟨hbase, hlen2, hcells⟩ := World.cells?_some h3
  refine ⟨hlen2, ⟨n, _, h4⟩, fun j v hj => ?_⟩
  have hj' : j < k := by rw [← hlen2]; exact (List.getElem?_eq_some_iff.1 hj).1
  have := hcells j hj'
  rw [hj] at this
  rw [← this]
  congr 1
  exact (Addr.add_add a _ _).symm
/-- .. in this engine's words -/
theorem open_cells {α : Type} {encc : α → List Value} {t e : TypeId} {m : Nat} {v : Value} {x : DataW H × List MemPlace} {k : Nat} (hk0 : 0 < k) (hkk : ∀ y, (encc y).length = k) (ht : P.underlying t = some (.slice e)) (hk : P.cellsOf e = k) (Good : α → Prop)
    (hE : ∀ n el y, DataW.trod enc P w base spare held n e el = some y → ∃ z, el = encc z ∧ Good z) (h : DataW.trod enc P w base spare held m t v.cells.toList = some x) (hv : ∃ a len cap, v = .slice a len cap) :
    ∃ a len cap, ∃ L : List α, v = .slice a len cap ∧ len ≤ cap ∧ cap ≤ maxLen ∧ L.length = len ∧ (∀ z ∈ L, Good z) ∧ (len = 0 ∨ ∃ b off, a = some ⟨b, off, none⟩ ∧ b < w.heap.size ∧ Cells w b off (L.flatMap encc)) := by
  obtain ⟨a, len, cap, rfl⟩ := hv
  rcases open_list ht hk h with h0 | ⟨a', len', cap', els, h1, hl, hm, hlen, hel⟩
  · simp [Value.cells] at h0
    obtain ⟨rfl, rfl, rfl⟩ := h0
    exact ⟨none, 0, 0, [], rfl, by omega, by simp, rfl, by simp, .inl rfl⟩
  · simp [Value.cells] at h1
    obtain ⟨rfl, rfl, rfl⟩ := h1
    have pick : ∀ i : Nat, i < len → ∃ z, els[i]? = some (encc z) ∧ Good z := fun i hi => by
      have hi' : i < els.length := by omega
      obtain ⟨_, ⟨n, y, hy⟩, _⟩ := hel i els[i] (List.getElem?_eq_getElem hi')
      obtain ⟨z, hz, hg⟩ := hE n _ y hy
      exact ⟨z, by rw [List.getElem?_eq_getElem hi', hz], hg⟩
    obtain ⟨L, hL⟩ : ∃ L : List α, els = L.map encc ∧ ∀ z ∈ L, Good z := by
      have key : ∀ (es : List (List Value)), (∀ el ∈ es, ∃ z, el = encc z ∧ Good z) → ∃ L : List α, es = L.map encc ∧ ∀ z ∈ L, Good z := by
        intro es
        induction es with
        | nil => intro _; exact ⟨[], rfl, by simp⟩
        | cons c es ih =>
          intro h
          obtain ⟨L, h1, h2⟩ := ih fun el he => h el (List.mem_cons_of_mem _ he)
          obtain ⟨z, hz, hg⟩ := h c List.mem_cons_self
          exact ⟨z :: L, by rw [hz, h1]; rfl, fun u hu => by
            rcases List.mem_cons.1 hu with rfl | hu
            · exact hg
            · exact h2 u hu⟩
      refine key els fun el he => ?_
      obtain ⟨i, hi⟩ := List.getElem?_of_mem he
      obtain ⟨_, ⟨n, y, hy⟩, _⟩ := hel i el hi
      exact hE n el y hy
    obtain ⟨hL1, hL2⟩ := hL
    have hLl : L.length = len := by rw [← hlen, hL1, List.length_map]
    refine ⟨some a', len, cap, L, rfl, hl, hm, hLl, hL2, ?_⟩
    rcases Nat.eq_zero_or_pos len with h0 | hpos
    · exact .inl h0
    · refine .inr ?_
      have each : ∀ j v, (L.flatMap encc)[j]? = some v → w.cell? (a'.add j) = some v := fun j v hj => by
        have hj1 := (List.getElem?_eq_some_iff.1 hj).1
        rw [flat_length hkk] at hj1
        have hd : j / k < L.length := Nat.div_lt_of_lt_mul (by rw [Nat.mul_comm]; exact hj1)
        have hr : j % k < k := Nat.mod_lt _ hk0
        have e1 : j / k * k + j % k = j := by rw [Nat.mul_comm]; exact Nat.div_add_mod j k
        have h2 := hel (j / k) (encc L[j / k]) (by rw [hL1, List.getElem?_map, List.getElem?_eq_getElem hd]; rfl)
        have h3 := flat_elem hkk (List.getElem?_eq_getElem hd) (List.getElem?_eq_getElem (l := encc L[j / k]) (i := j % k) (by rw [hkk]; exact hr))
        rw [e1, hj] at h3
        injection h3 with h3
        have h4 := h2.2.2 (j % k) v (by rw [List.getElem?_eq_getElem (by rw [hkk]; exact hr), ← h3])
        rw [e1] at h4
        exact h4
      have h0 : ∃ v, (L.flatMap encc)[0]? = some v := ⟨(L.flatMap encc)[0]'(by rw [flat_length hkk]; exact Nat.mul_pos (by omega) hk0), List.getElem?_eq_getElem _⟩
      obtain ⟨v0, hv0⟩ := h0
      have hc0 := each 0 v0 hv0
      obtain ⟨b, off, spot⟩ := a'
      have hs : spot = none := by
        cases spot with
        | none => rfl
        | some s =>
          exfalso
          simp [Addr.add, World.cell?] at hc0
          split at hc0 <;> cases hc0
      subst hs
      refine ⟨b, off, rfl, World.block_lt_of_cell? w ⟨b, off, none⟩ (by simpa [Addr.add] using hc0), fun j v hj => ?_⟩
      have := each j v hj
      rwa [add_at] at this
end Go.Proofs.Ytogfllhbgkeinaa.Open
