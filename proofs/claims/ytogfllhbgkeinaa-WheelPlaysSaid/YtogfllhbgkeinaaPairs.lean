/-
  slices.SortFunc at pairs of a name and a time, under Each's own order.
-/
import Derived.Test.YtogfllhbgkeinaaOrd
import Derived.Test.YtogfllhbgkeinaaEnts
import Derived.Lib.QuietBelow
set_option linter.unusedVariables false
set_option linter.unusedSimpArgs false
namespace Go.Proofs.Ytogfllhbgkeinaa.Wheel
open Go.RowKit Base Lev Wa Eng Wb Spc
open Go.ChangeMaps (setBlock)
variable {w w0 : World} {wb mb now to : Nat} {a : Option Addr} {cap : Nat}

theorem eachc_ret (x y : Ent) (w : World) : Ret Try.prog 47 #[.agg (ecells x).toArray, .agg (ecells y).toArray] w fun v w' => v = .int .i64 (ordE x y) ∧ Ext w w' := by
  refine ret_of (vs := [_, _]) Try.func47 rfl Try.ntmps47 rfl fun _ => ?_
  refine q_seq (q_reg (s_val rfl (e_box rfl) (s_val rfl (e_box rfl) (s_get rfl (e_assign rfl) (s_end (x_then ?_))))))
  obtain ⟨w1, hw1⟩ : ∃ w1, w1 = w.alloc (.cells (Value.agg (ecells x).toArray).cells 89) := ⟨_, rfl⟩
  rw [← hw1]
  have h1 : Ext w w1 := hw1 ▸ (Ext.refl w).alloc _
  have hx : w1.heap[w.heap.size]? = some (.cells (ecells x).toArray 89 (0, 0)) := by rw [hw1]; exact Base.heap_alloc_new' _ _
  obtain ⟨w2, hw2⟩ : ∃ w2, w2 = w1.alloc (.cells (Value.agg (ecells y).toArray).cells 89) := ⟨_, rfl⟩
  rw [← hw2]
  have h2 : Ext w1 w2 := hw2 ▸ (Ext.refl w1).alloc _
  have hy : w2.heap[w1.heap.size]? = some (.cells (ecells y).toArray 89 (0, 0)) := by rw [hw2]; exact Base.heap_alloc_new' _ _
  have hx := h2.at hx
  have x0 : w2.cell? ⟨w.heap.size, 0 + 0, none⟩ = some (.string x.1) := by rw [cell_of hx]; rfl
  have x1 : w2.cell? ⟨w.heap.size, 0 + 1, none⟩ = some (.int .i64 x.2) := by rw [cell_of hx]; rfl
  have y0 : w2.cell? ⟨w1.heap.size, 0 + 0, none⟩ = some (.string y.1) := by rw [cell_of hy]; rfl
  have y1 : w2.cell? ⟨w1.heap.size, 0 + 1, none⟩ = some (.int .i64 y.2) := by rw [cell_of hy]; rfl
  have hE := h1.trans h2
  refine q_seq (q_seq (q_reg (s_get rfl (e_fld rfl) (s_get rfl (e_ld rfl x1) (s_get rfl (e_fld rfl) (s_get rfl (e_ld rfl y1) (s_get rfl (e_neq rfl rfl) (s_end (x_then ?_)))))))))
  unfold ordE
  refine q_dec rfl (fun h => ?_) fun h => ?_
  · have h' : ¬ x.2 = y.2 := fun e => h (by rw [e])
    refine q_seq (q_reg (s_get rfl (e_fld rfl) (s_get rfl (e_ld rfl x1) (s_get rfl (e_fld rfl) (s_get rfl (e_ld rfl y1) (s_call rfl (e_fn rfl) (cmpI_ret _ _ _) ?_))))))
    rintro _ _ ⟨rfl, rfl⟩
    refine s_get rfl (e_assign rfl) (s_end (x_then ?_))
    exact q_ret (x_then_ret (x_ret1 (.inl rfl) rfl rfl ⟨by rw [if_neg h'], hE⟩))
  · have h' : x.2 = y.2 := by
      have : (x.2 : Int) = y.2 := Decidable.not_not.1 h
      omega
    refine q_skip (x_then ?_)
    refine q_seq (q_reg (s_get rfl (e_fld rfl) (s_get rfl (e_ld rfl x0) (s_get rfl (e_fld rfl) (s_get rfl (e_ld rfl y0) (s_call rfl (e_fn rfl) (cmpS_ret _ _ _) ?_))))))
    rintro _ _ ⟨rfl, rfl⟩
    refine s_get rfl (e_assign rfl) (s_end (x_then ?_))
    exact q_ret (x_ret1 (.inl rfl) rfl rfl ⟨by rw [if_pos h'], hE⟩)

/-! ### Rows of elements of more than one cell -/
section
variable {α : Type} [Inhabited α] {enc : α → List Value} {k : Nat}
theorem flat_get (hk : ∀ x, (enc x).length = k) : ∀ (l : List α) (j : Nat), j < l.length * k → (l.flatMap enc)[j]? = some ((enc l[j / k]!)[j % k]!)
  | [], j, h => by simp at h
  | x :: l, j, h => by
    have k0 : 0 < k := by rcases Nat.eq_zero_or_pos k with h0 | h0
                          · subst h0; simp at h
                          · exact h0
    rw [List.flatMap_cons]
    rcases Nat.lt_or_ge j k with g | g
    · rw [List.getElem?_append_left (by rw [hk]; exact g), Nat.div_eq_of_lt g, Nat.mod_eq_of_lt g]
      rw [List.getElem?_eq_getElem (by rw [hk]; exact g)]
      simp only [List.getElem!_cons_zero]
      rw [getElem!_pos _ j (by rw [hk]; exact g)]
    · rw [List.getElem?_append_right (by rw [hk]; exact g), hk, flat_get hk l (j - k) (by rw [List.length_cons, Nat.add_mul, Nat.one_mul] at h; omega)]
      have e1 : j / k = (j - k) / k + 1 := by rw [Nat.div_eq_sub_div k0 g]
      have e2 : j % k = (j - k) % k := Nat.mod_eq_sub_mod g
      rw [e1, e2, List.getElem!_cons_succ]
omit [Inhabited α] in
theorem flat_len (hk : ∀ x, (enc x).length = k) : ∀ (l : List α), (l.flatMap enc).length = l.length * k
  | [] => by simp
  | x :: l => by rw [List.flatMap_cons, List.length_append, hk, flat_len hk l, List.length_cons, Nat.add_mul, Nat.one_mul, Nat.add_comm]
theorem flatK_list (hk : ∀ x, (enc x).length = k) (d : Array α) : (Go.Sort.flatK enc k d).toList = d.toList.flatMap enc := by
  apply List.ext_getElem?
  intro j
  rcases Nat.lt_or_ge j (d.size * k) with h | h
  · rw [flat_get hk d.toList j (by simpa using h)]
    unfold Go.Sort.flatK
    have hjk : j / k < d.size := Nat.div_lt_of_lt_mul (by rw [Nat.mul_comm]; exact h)
    simp [h, hjk]
  · rw [List.getElem?_eq_none (by simpa using h), List.getElem?_eq_none (by rw [flat_len hk]; simpa using h)]
theorem sl_sortedK {w : World} {blk off cap m T : Nat} {d d' : Array α} {os : Array Obj} (hk : ∀ x, (enc x).length = k) (h1 : ∀ x, ∀ v ∈ enc x, v.oneCell' = true) (hs : d'.size = d.size) (h : Sl w T k (some ⟨blk, off, none⟩) d.size cap (d.toList.flatMap enc) (some blk)) :
    Sl (sortWorldK enc k w blk off m d' os) T k (some ⟨blk, off, none⟩) d.size cap (d'.toList.flatMap enc) (some blk) := by
  have hlen := flat_len hk d'.toList
  cases h with
  | @«at» _ _ _ _ _ arr hb g1 g2 g3 g4 g5 =>
    have hb2 : (sortWorldK enc k w blk off m d' os).heap[blk]? = some (.cells (Go.Sort.putCells id off (Go.Sort.flatK enc k d') arr) T (0, 0)) := heap_sortWorld_same hb
    refine .at hb2 (by simpa [Go.Sort.putCells] using g1) g2 (by rw [hlen]; simp [hs]) (fun j v hj => ?_) fun v hv => ?_
    · have hjl : j < d'.size * k := by
        have := (List.getElem?_eq_some_iff.1 hj).1
        rw [hlen] at this; simpa using this
      have hle : d'.size * k ≤ cap * k := Nat.mul_le_mul_right _ (by omega)
      have hc : off + j < arr.size := by omega
      rw [← flatK_list hk] at hj
      unfold Go.Sort.putCells
      rw [Array.getElem?_mapIdx, Array.getElem?_eq_getElem hc, Option.map_some, if_pos ⟨by omega, by rw [Go.Sort.size_flatK]; omega⟩, show off + j - off = j by omega, getElem!_pos _ j (by rw [Go.Sort.size_flatK]; exact hjl)]
      rw [List.getElem?_eq_getElem (by rw [Array.length_toList, Go.Sort.size_flatK]; exact hjl)] at hj
      simpa using hj
    · obtain ⟨x, _, hx⟩ := List.mem_flatMap.1 hv
      exact h1 x v hx
theorem kept_sortWorldK {w : World} {blk off m : Nat} {d' : Array α} {os : Array Obj} : Kept (fun i => i = blk) w (sortWorldK enc k w blk off m d' os) := kept_sortWorld (enc := id)
theorem drawn_sortWorldK {w : World} {blk off m : Nat} {d' : Array α} {os : Array Obj} : (sortWorldK enc k w blk off m d' os).drawn = w.drawn + m := rfl
theorem holdsK_of {w : World} {blk off cap T : Nat} {d : Array α} (hk : ∀ x, (enc x).length = k) (h : Sl w T k (some ⟨blk, off, none⟩) d.size cap (d.toList.flatMap enc) (some blk)) : Go.Sort.HoldsK enc k w blk off d := by
  cases h with
  | @«at» _ _ _ _ _ arr hb g1 g2 g3 g4 g5 =>
    intro j hj
    refine ⟨?_, free_of hb _⟩
    rw [cell_of hb]
    refine g4 j _ ?_
    have hj' := hj
    rw [Go.Sort.size_flatK] at hj'
    rw [← flatK_list hk, getElem!_pos _ j hj, List.getElem?_eq_getElem (by simpa using hj)]
    simp
end

theorem ret_grown {f : FuncId} {args : Array Value} {w : World} {R : Value → Prop} {v0 : Value} (h : Ret Try.prog f args w fun v w' => v = v0 ∧ Ext w w') :
    Calls Try.prog f args w fun e w' => e = .returned v0 ∧ ∃ q os', w' = Go.Sort.grow (w.drewN q) os' := by
  have h1 := h w.drawn
  rw [dn_self] at h1
  refine h1.mono fun e w' ⟨v, he, w1, k', hw', hk', hv, hx⟩ => ⟨by rw [he, hv], ?_⟩
  have hb : Below w.heap.size w w' := by
    subst hw'
    exact ⟨hx.os, hx.tape, hx.output, hx.size, fun i hi => hx.block i hi fun h => h⟩
  obtain ⟨p, hp⟩ := regrown_of_below hb
  refine ⟨k' - w.drawn, p.os, ?_⟩
  have hd : p.d = k' := by
    have h1 : w'.drawn = p.d := by rw [hp]; rfl
    rw [← h1, hw']; rfl
  rw [hp, hd]
  have e : redrawn w k' = w.drewN (k' - w.drawn) := by
    show dn w k' = dn w (w.drawn + (k' - w.drawn))
    rw [Nat.add_sub_cancel' hk']
  rw [e]
theorem sortP_ret {D : List Ent} {db : Option Nat} (hs : Sl w 89 2 a D.length cap (ents D) db) (hn : D.Nodup) (hlen : D.length ≤ 1073741824) :
    Ret Try.prog 46 #[.slice a D.length cap, .func (.func 47) #[] #[]] w fun v w' => v = .tuple #[] ∧
      ∃ D', D'.Perm D ∧ Srt D' ∧ Sl w' 89 2 a D'.length cap (ents D') db ∧ Kept (fun i => db = some i) w w' := by
  cases hD : D with
  | nil =>
    subst hD
    intro k
    refine (AnyF.slices_SortFunc_none (P := Try.prog) (ρ := Try.sortP_ren) Try.sortP a cap (.func (.func 47) #[] #[]) (dn w k)).mono fun e w' ⟨he, hw⟩ => ?_
    exact ⟨_, he, w, k, hw, Nat.le_refl _, rfl, [], .refl _, List.Pairwise.nil, hs, Kept.refl _ _⟩
  | cons t0 D0 =>
    rw [← hD]
    have hpos : 0 < D.length := by rw [hD]; simp
    obtain ⟨blk, off, rfl, rfl, hcells, hfree⟩ := hs.pos hpos
    intro k
    haveI : Inhabited Ent := ⟨t0⟩
    have hsz : D.toArray.size = D.length := by simp
    have hblk : blk < w.heap.size := hs.lt rfl
    have hk2 : ∀ x : Ent, (ecells x).length = 2 := fun _ => rfl
    have h12 : ∀ x : Ent, ∀ v ∈ ecells x, v.oneCell' = true := fun x v hv => by
      simp only [ecells, List.mem_cons, List.not_mem_nil, or_false] at hv
      rcases hv with rfl | rfl <;> rfl
    have h0 : Sl (dn w k) 89 2 (some ⟨blk, off, none⟩) D.toArray.size cap (D.toArray.toList.flatMap ecells) (some blk) := by
      rw [hsz]; exact hs.dn k
    have hH := holdsK_of hk2 h0
    have hcmp : CmpLays Try.prog 47 #[] ecells 2 ordE blk off D.toArray.size (dn w k) := fun m os dk hdk x y => by
      have := ret_grown (R := fun _ => True) (eachc_ret x y (sortWorldK ecells 2 (dn w k) blk off m dk os))
      exact this
    have hlt : ltOf ordE = fun x y : Ent => elt x y := by
      funext x y
      exact ordE_lt _ _
    have eg : ∀ args w, (callFunc 47 args).run Try.prog w = .ok (.enter 47 args) w := fun args w => TFn.h args w
    have aE : ∀ w, (isAgg 89).run Try.prog w = .ok true w := fun w => TAgg.agg
    have zE : ∀ w, (Go.sizeOf 89).run Try.prog w = .ok 2 w := fun w => TAgg.size
    have hS := AnyQ.slices_SortFunc (P := Try.prog) (ρ := Try.sortP_ren) Try.sortP 2 aE zE ecells hk2 h12 ordE (by rw [hlt]; exact swo_elt (fun x : Ent => x)) 47 #[] blk off cap D.toArray (dn w k) eg hcmp hH hblk (by rw [hsz]; omega)
    rw [hsz] at hS
    refine hS.mono fun e w' ⟨he, d', n, os, hp, hsrt, hw'⟩ => ?_
    have hp' := hp
    rw [← hsz] at hp'
    have hperm := permIn_perm hp'
    have hps := hp'.1
    rw [hlt] at hsrt
    rw [List.toList_toArray] at hperm
    have hnd : d'.toList.Nodup := hperm.nodup_iff.2 hn
    have hlen' : d'.toList.length = D.length := hperm.length_eq
    refine ⟨_, he, w', w'.drawn, rfl, by rw [hw']; exact Nat.le_add_right _ _, rfl, d'.toList, hperm, ?_, ?_, ?_⟩
    · have := sortedIn_srt (fun x : Ent => x) (d := d') (by rw [hps, hsz]; exact hsrt) (by simpa using hnd)
      simpa using this
    · rw [hlen', hw']
      have := sl_sortedK (m := n) (os := os) hk2 h12 hps h0
      rw [hsz] at this
      exact this
    · rw [hw']
      have : Kept (fun i => i = blk) (dn w k) (sortWorldK ecells 2 (dn w k) blk off n d' os) := kept_sortWorldK
      exact ⟨this.os, this.tape, this.output, this.size, fun i hi hni => this.block i hi fun e => hni (by rw [e])⟩
end Go.Proofs.Ytogfllhbgkeinaa.Wheel
