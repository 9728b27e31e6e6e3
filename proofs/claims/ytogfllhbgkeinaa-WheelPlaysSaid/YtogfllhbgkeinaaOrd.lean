/-
  cmp.Compare, the wheel's order, and slices.SortFunc under it.
-/
import Derived.Test.YtogfllhbgkeinaaAdw
import Derived.Test.YtogfllhbgkeinaaSort
set_option linter.unusedVariables false
set_option linter.unusedSimpArgs false
namespace Go.Proofs.Ytogfllhbgkeinaa.Wheel
open Go.RowKit Base Lev Wa Eng Wb Spc
open Go.ChangeMaps (setBlock)
variable {w w0 : World} {wb mb now to : Nat} {a : Option Addr} {cap : Nat}

theorem nan_i (x : Int) (w : World) : Ret Try.prog 61 #[.int .i64 x] w fun v w' => v = .bool false ∧ w' = w := by
  refine ret_of (vs := [_]) Try.func61 rfl Try.ntmps61 rfl fun _ => ?_
  refine q_seq (q_reg (s_get rfl (e_assign rfl) (s_end (x_then ?_))))
  refine q_seq (q_reg (s_get rfl (e_move rfl) (s_get rfl (e_move rfl) (s_get rfl (nay (e_neq rfl rfl) (by simp)) (s_get rfl (e_assign rfl) (s_end (x_then ?_)))))))
  exact q_ret (x_ret1 (.inl rfl) rfl rfl ⟨rfl, rfl⟩)
theorem nan_s (x : ByteArray) (w : World) : Ret Try.prog 62 #[.string x] w fun v w' => v = .bool false ∧ w' = w := by
  refine ret_of (vs := [_]) Try.func62 rfl Try.ntmps62 rfl fun _ => ?_
  refine q_seq (q_reg (s_get rfl (e_assign rfl) (s_end (x_then ?_))))
  refine q_seq (q_reg (s_get rfl (e_move rfl) (s_get rfl (e_move rfl) (s_get rfl (nay (e_sne rfl rfl) (by simp)) (s_get rfl (e_assign rfl) (s_end (x_then ?_)))))))
  exact q_ret (x_ret1 (.inl rfl) rfl rfl ⟨rfl, rfl⟩)
def cmpI (x y : Int) : Int := if x < y then -1 else if y < x then 1 else 0
def cmpS (x y : ByteArray) : Int := if slt x y = true then -1 else if slt y x = true then 1 else 0
theorem sgt_eq (x y : ByteArray) : (!(Op.bytesLess x.toList y.toList || x.toList == y.toList)) = slt y x := by
  rcases slt_tri x y with h | h | h
  · have h2 : slt y x = false := by
      cases hh : slt y x with
      | false => rfl
      | true => have := slt_trans h hh; rw [slt_irrefl] at this; cases this
    unfold slt at h
    rw [h2, h]; rfl
  · subst h
    rw [slt_irrefl]; simp
  · have h2 : Op.bytesLess x.toList y.toList = false := by
      cases hh : Op.bytesLess x.toList y.toList with
      | false => rfl
      | true => have := slt_trans (a := x) (b := y) hh h; rw [slt_irrefl] at this; cases this
    have h3 : (x.toList == y.toList) = false := by
      cases hh : x.toList == y.toList with
      | false => rfl
      | true =>
        have e : x = y := toList_inj (by simpa using hh)
        rw [e, slt_irrefl] at h; cases h
    rw [h, h2, h3]; rfl
theorem cmpI_ret (x y : Int) (w : World) : Ret Try.prog 48 #[.int .i64 x, .int .i64 y] w fun v w' => v = .int .i64 (cmpI x y) ∧ w' = w := by
  refine ret_of (vs := [_, _]) Try.func48 rfl Try.ntmps48 rfl fun _ => ?_
  refine q_seq (q_reg (s_get rfl (e_assign rfl) (s_end (x_then ?_))))
  refine q_seq (q_reg (s_get rfl (e_move rfl) (s_call rfl (e_fn rfl) (nan_i _ _) ?_)))
  rintro _ w ⟨rfl, rfl⟩
  refine s_get rfl (e_assign rfl) (s_end (x_then ?_))
  refine q_seq (q_reg (s_get rfl (e_move rfl) (s_call rfl (e_fn rfl) (nan_i _ _) ?_)))
  rintro _ w ⟨rfl, rfl⟩
  refine s_get rfl (e_assign rfl) (s_end (x_then ?_))
  refine q_seq (q_seq (q_reg (s_get rfl (e_move rfl) (s_end (x_then ?_)))))
  refine q_no rfl (q_skip (x_then ?_))
  refine q_seq (q_seq (q_reg (s_get rfl (e_move rfl) (s_end (x_then ?_)))))
  refine q_no rfl (q_skip (x_then ?_))
  refine q_seq (q_seq (q_reg (s_get rfl (e_move rfl) (s_get rfl (e_move rfl) (s_get rfl (e_lss rfl rfl) (s_end (x_then ?_)))))))
  unfold cmpI
  refine q_dec rfl (fun h => ?_) fun h => ?_
  ·
    refine q_seq (q_reg (s_get rfl (e_assign rfl) (s_end (x_then ?_))))
    exact q_ret (x_then_ret (x_ret1 (.inl rfl) rfl rfl ⟨by rw [if_pos h], rfl⟩))
  · refine q_skip (x_then ?_)
    refine q_seq (q_seq (q_reg (s_get rfl (e_move rfl) (s_get rfl (e_move rfl) (s_get rfl (e_gtr rfl rfl) (s_end (x_then ?_)))))))
    refine q_dec rfl (fun h2 => ?_) fun h2 => ?_
    ·
      refine q_seq (q_reg (s_get rfl (e_assign rfl) (s_end (x_then ?_))))
      exact q_ret (x_then_ret (x_ret1 (.inl rfl) rfl rfl ⟨by rw [if_neg h, if_pos h2], rfl⟩))
    · refine q_skip (x_then ?_)
      refine q_seq (q_reg (s_get rfl (e_assign rfl) (s_end (x_then ?_))))
      exact q_ret (x_ret1 (.inl rfl) rfl rfl ⟨by rw [if_neg h, if_neg h2], rfl⟩)
theorem cmpS_ret (x y : ByteArray) (w : World) : Ret Try.prog 49 #[.string x, .string y] w fun v w' => v = .int .i64 (cmpS x y) ∧ w' = w := by
  refine ret_of (vs := [_, _]) Try.func49 rfl Try.ntmps49 rfl fun _ => ?_
  refine q_seq (q_reg (s_get rfl (e_assign rfl) (s_end (x_then ?_))))
  refine q_seq (q_reg (s_get rfl (e_move rfl) (s_call rfl (e_fn rfl) (nan_s _ _) ?_)))
  rintro _ w ⟨rfl, rfl⟩
  refine s_get rfl (e_assign rfl) (s_end (x_then ?_))
  refine q_seq (q_reg (s_get rfl (e_move rfl) (s_call rfl (e_fn rfl) (nan_s _ _) ?_)))
  rintro _ w ⟨rfl, rfl⟩
  refine s_get rfl (e_assign rfl) (s_end (x_then ?_))
  refine q_seq (q_seq (q_reg (s_get rfl (e_move rfl) (s_end (x_then ?_)))))
  refine q_no rfl (q_skip (x_then ?_))
  refine q_seq (q_seq (q_reg (s_get rfl (e_move rfl) (s_end (x_then ?_)))))
  refine q_no rfl (q_skip (x_then ?_))
  refine q_seq (q_seq (q_reg (s_get rfl (e_move rfl) (s_get rfl (e_move rfl) (s_get rfl (e_slt rfl rfl) (s_end (x_then ?_)))))))
  unfold cmpS
  refine q_cond rfl (fun h => ?_) fun h => ?_
  ·
    refine q_seq (q_reg (s_get rfl (e_assign rfl) (s_end (x_then ?_))))
    have h : slt x y = true := h
    exact q_ret (x_then_ret (x_ret1 (.inl rfl) rfl rfl ⟨by rw [if_pos h], rfl⟩))
  · have h' : ¬ slt x y = true := by unfold slt; rw [h]; simp
    refine q_skip (x_then ?_)
    refine q_seq (q_seq (q_reg (s_get rfl (e_move rfl) (s_get rfl (e_move rfl) (s_get rfl (e_sgt rfl rfl) (s_end (x_then ?_)))))))
    refine q_cond rfl (fun h2 => ?_) fun h2 => ?_
    ·
      refine q_seq (q_reg (s_get rfl (e_assign rfl) (s_end (x_then ?_))))
      rw [sgt_eq] at h2
      exact q_ret (x_then_ret (x_ret1 (.inl rfl) rfl rfl ⟨by rw [if_neg h', if_pos h2], rfl⟩))
    · refine q_skip (x_then ?_)
      refine q_seq (q_reg (s_get rfl (e_assign rfl) (s_end (x_then ?_))))
      rw [sgt_eq] at h2
      exact q_ret (x_ret1 (.inl rfl) rfl rfl ⟨by rw [if_neg h', if_neg (by rw [h2]; simp)], rfl⟩)
def ordE (x y : Ent) : Int := if x.2 = y.2 then cmpS x.1 y.1 else cmpI x.2 y.2
def ordT (x y : Tm) : Int := ordE (pr x) (pr y)
theorem ordE_lt (x y : Ent) : decide (ordE x y < 0) = elt x y := by
  unfold ordE elt
  by_cases h : x.2 = y.2
  · rw [if_pos h]
    unfold cmpS
    cases h1 : slt x.1 y.1 <;> cases h2 : slt y.1 x.1 <;> simp [h]
  · rw [if_neg h]
    unfold cmpI
    by_cases h1 : x.2 < y.2
    · have : (x.2 : Int) < y.2 := by omega
      simp [h1, this]
    · have h3 : ¬ (x.2 : Int) < y.2 := by omega
      have h4 : (y.2 : Int) < x.2 := by omega
      simp [h, h1, h3, h4]
theorem order_ret {t u : Tm} {p q p' q' : Option Nat} (hT : TBlk w t p q) (hU : TBlk w u p' q') : Ret Try.prog 33 #[ptr (some t.b), ptr (some u.b)] w fun v w' => v = .int .i64 (ordT t u) ∧ w' = w := by
  obtain ⟨c0, c1, _⟩ := hT.c
  obtain ⟨d0, d1, _⟩ := hU.c
  refine ret_of (vs := [_, _]) Try.func33 rfl Try.ntmps33 rfl fun _ => ?_
  refine q_seq (q_reg (s_get rfl (e_assign rfl) (s_end (x_then ?_))))
  refine q_seq (q_seq (d_begin (Ext _) [3, 7] (d_pure (i := 0) rfl rfl rfl (by kernel_rfl) (fun w' => (e_move rfl)) (d_pure (i := 1) rfl rfl rfl (by kernel_rfl) (fun w' => (e_nil rfl)) (d_pure (i := 2) rfl rfl rfl (by kernel_rfl) (fun w' => (e_fld rfl)) (d_head (i := 3) rfl rfl rfl (by kernel_rfl) (by kernel_rfl) (Ext.refl _) (fun w' hS => (e_ld rfl (hS.cell c1))) (d_pure (i := 4) rfl rfl rfl (by kernel_rfl) (fun w' => (e_move rfl)) (d_pure (i := 5) rfl rfl rfl (by kernel_rfl) (fun w' => (e_nil rfl)) (d_pure (i := 6) rfl rfl rfl (by kernel_rfl) (fun w' => (e_fld rfl)) (d_head (i := 7) rfl rfl rfl (by kernel_rfl) (by kernel_rfl) (Ext.refl _) (fun w' hS => (e_ld rfl (hS.cell d1))) (d_pure (i := 8) rfl rfl rfl (by kernel_rfl) (fun w' => (e_neq rfl rfl)) (d_end (by kernel_rfl) (x_then ?_)))))))))))))
  unfold ordT ordE
  refine q_dec rfl (fun h => ?_) fun h => ?_
  · have h' : ¬ (pr t).2 = (pr u).2 := fun e => h (by show (((pr t).2 : Nat) : Int) = _; rw [e]; rfl)
    refine q_seq (d_begin (Ext _) [3, 7] (d_pure (i := 0) rfl rfl rfl (by kernel_rfl) (fun w' => (e_move rfl)) (d_pure (i := 1) rfl rfl rfl (by kernel_rfl) (fun w' => (e_nil rfl)) (d_pure (i := 2) rfl rfl rfl (by kernel_rfl) (fun w' => (e_fld rfl)) (d_head (i := 3) rfl rfl rfl (by kernel_rfl) (by kernel_rfl) (Ext.refl _) (fun w' hS => (e_ld rfl (hS.cell c1))) (d_pure (i := 4) rfl rfl rfl (by kernel_rfl) (fun w' => (e_move rfl)) (d_pure (i := 5) rfl rfl rfl (by kernel_rfl) (fun w' => (e_nil rfl)) (d_pure (i := 6) rfl rfl rfl (by kernel_rfl) (fun w' => (e_fld rfl)) (d_head (i := 7) rfl rfl rfl (by kernel_rfl) (by kernel_rfl) (Ext.refl _) (fun w' hS => (e_ld rfl (hS.cell d1))) (d_call (i := 8) rfl rfl rfl (by kernel_rfl) (e_fn rfl) (cmpI_ret _ _ _) (fun _ _ h => .inr (h.2 ▸ Ext.refl _)) ?_))))))))))
    rintro _ w ⟨rfl, rfl⟩
    refine d_pure (i := 9) rfl rfl rfl (by kernel_rfl) (fun w' => (e_assign rfl)) (d_end (by kernel_rfl) (x_then ?_))
    exact q_ret (x_then_ret (x_ret1 (.inl rfl) rfl rfl ⟨by rw [if_neg h']; rfl, rfl⟩))
  · have h' : (pr t).2 = (pr u).2 := by
      show t.at_ = u.at_
      have : (t.at_ : Int) = u.at_ := Decidable.not_not.1 h
      omega
    refine q_skip (x_then ?_)
    refine q_seq (d_begin (Ext _) [3, 7] (d_pure (i := 0) rfl rfl rfl (by kernel_rfl) (fun w' => (e_move rfl)) (d_pure (i := 1) rfl rfl rfl (by kernel_rfl) (fun w' => (e_nil rfl)) (d_pure (i := 2) rfl rfl rfl (by kernel_rfl) (fun w' => (e_fld rfl)) (d_head (i := 3) rfl rfl rfl (by kernel_rfl) (by kernel_rfl) (Ext.refl _) (fun w' hS => (e_ld rfl (hS.cell c0))) (d_pure (i := 4) rfl rfl rfl (by kernel_rfl) (fun w' => (e_move rfl)) (d_pure (i := 5) rfl rfl rfl (by kernel_rfl) (fun w' => (e_nil rfl)) (d_pure (i := 6) rfl rfl rfl (by kernel_rfl) (fun w' => (e_fld rfl)) (d_head (i := 7) rfl rfl rfl (by kernel_rfl) (by kernel_rfl) (Ext.refl _) (fun w' hS => (e_ld rfl (hS.cell d0))) (d_call (i := 8) rfl rfl rfl (by kernel_rfl) (e_fn rfl) (cmpS_ret _ _ _) (fun _ _ h => .inr (h.2 ▸ Ext.refl _)) ?_))))))))))
    rintro _ w ⟨rfl, rfl⟩
    refine d_pure (i := 9) rfl rfl rfl (by kernel_rfl) (fun w' => (e_assign rfl)) (d_end (by kernel_rfl) (x_then ?_))
    exact q_ret (x_ret1 (.inl rfl) rfl rfl ⟨by rw [if_pos h']; rfl, rfl⟩)

/-! ### slices.SortFunc -/
theorem heap_mapBlock {k blk : Nat} (f : Array Value → Array Value) (h : k ≠ blk) : (Go.Sort.mapBlock w blk f).heap[k]? = w.heap[k]? := by
  unfold Go.Sort.mapBlock
  rw [Array.getElem?_modify, if_neg (Ne.symm h)]
theorem heap_mapBlock_same {blk : Nat} {arr : Array Value} {T : TypeId} {fr : Nat × Nat} (f : Array Value → Array Value) (h : w.heap[blk]? = some (.cells arr T fr)) : (Go.Sort.mapBlock w blk f).heap[blk]? = some (.cells (f arr) T fr) := by
  unfold Go.Sort.mapBlock
  rw [Array.getElem?_modify, if_pos rfl, h]; rfl
theorem heap_grow {k : Nat} (os : Array Obj) (h : k < w.heap.size) : (Go.Sort.grow w os).heap[k]? = w.heap[k]? := by
  unfold Go.Sort.grow
  rw [Array.getElem?_append_left h]
section
variable {α : Type} [Inhabited α] {enc : α → Value} {blk off m : Nat} {dk : Array α} {os : Array Obj}
theorem heap_sortWorld {k : Nat} (h : k < w.heap.size) (hb : k ≠ blk) : (sortWorld enc w blk off m dk os).heap[k]? = w.heap[k]? := by
  unfold sortWorld Go.Sort.putRow
  rw [heap_grow os (by simpa [Go.Sort.mapBlock, Go.Sort.ahead] using h), heap_mapBlock _ hb]; rfl
theorem heap_sortWorld_same {arr : Array Value} {T : TypeId} {fr : Nat × Nat} (h : w.heap[blk]? = some (.cells arr T fr)) : (sortWorld enc w blk off m dk os).heap[blk]? = some (.cells (Go.Sort.putCells enc off dk arr) T fr) := by
  have := lt_of_at h
  unfold sortWorld Go.Sort.putRow
  rw [heap_grow os (by simpa [Go.Sort.mapBlock, Go.Sort.ahead] using this), heap_mapBlock_same (w := Go.Sort.ahead w m) _ h]
theorem kept_sortWorld : Kept (fun i => i = blk) w (sortWorld enc w blk off m dk os) :=
  ⟨rfl, rfl, rfl, by simp [sortWorld, Go.Sort.grow, Go.Sort.putRow, Go.Sort.mapBlock, Go.Sort.ahead], fun k hk hn => heap_sortWorld hk hn⟩
theorem drawn_sortWorld : (sortWorld enc w blk off m dk os).drawn = w.drawn + m := rfl
end
theorem swo_elt {α : Type} (f : α → Ent) : Go.Sort.SWO (fun x y : α => elt (f x) (f y)) where
  irrefl x := elt_irrefl _
  trans x y z := elt_trans
  ntrans x y z h1 h2 := by
    rcases elt_tri (f x) (f y) with h | h | h
    · rw [h] at h1; cases h1
    · simp only [h] at h1 h2 ⊢; exact h2
    · cases h3 : elt (f x) (f z) with
      | false => rfl
      | true => rw [elt_trans h h3] at h2; cases h2
theorem sortedIn_srt {α : Type} [Inhabited α] (f : α → Ent) {d : Array α} (hs : Go.Sort.SortedIn (fun x y : α => elt (f x) (f y)) 0 d.size d) (hn : (d.toList.map f).Nodup) : Srt (d.toList.map f) := by
  unfold Srt
  rw [List.pairwise_iff_getElem]
  intro i j hi hj hij
  simp only [List.length_map, Array.length_toList] at hi hj
  have h := hs i j (Nat.zero_le _) hij hj
  rw [getElem!_pos d i hi, getElem!_pos d j hj] at h
  simp only [List.getElem_map, Array.getElem_toList]
  rcases elt_tri (f d[i]) (f d[j]) with g | g | g
  · exact g
  · exfalso
    have := (List.pairwise_iff_getElem.1 hn) i j (by simpa using hi) (by simpa using hj) hij
    simp only [List.getElem_map, Array.getElem_toList] at this
    exact this g
  · replace h : elt (f d[j]) (f d[i]) = false := h
    rw [g] at h; cases h
theorem permIn_perm {α : Type} [Inhabited α] {d d' : Array α} (h : Go.Sort.PermIn 0 d.size d d') : d'.toList.Perm d.toList := by
  have h3 := h.2.2
  rw [← h.1] at h3
  have e1 : d'.extract 0 d'.size = d' := by simp
  have e2 : d.extract 0 d'.size = d := by rw [h.1]; simp
  rw [e1, e2] at h3
  exact h3
/-- the cells behind a sort -/
theorem sl_sorted {α : Type} [Inhabited α] {enc : α → Value} {w : World} {blk off cap m T : Nat} {d d' : Array α} {os : Array Obj} (hO : ∀ x, (enc x).oneCell' = true) (hs : d'.size = d.size) (h : Sl w T 1 (some ⟨blk, off, none⟩) d.size cap (d.toList.map enc) (some blk)) :
    Sl (sortWorld enc w blk off m d' os) T 1 (some ⟨blk, off, none⟩) d.size cap (d'.toList.map enc) (some blk) := by
  cases h with
  | @«at» _ _ _ _ _ arr hb h1 h2 h3 h4 h5 =>
    refine .at (heap_sortWorld_same hb) (by simpa [Go.Sort.putCells] using h1) h2 (by simp [hs]) (fun j v hj => ?_) fun v hv => ?_
    · rw [List.getElem?_map] at hj
      have hjl : j < d'.size := by
        rcases Nat.lt_or_ge j d'.size with h | h
        · exact h
        · rw [List.getElem?_eq_none (by simpa using h)] at hj; cases hj
      have hc : off + j < arr.size := by omega
      unfold Go.Sort.putCells
      rw [Array.getElem?_mapIdx, Array.getElem?_eq_getElem hc, Option.map_some, if_pos ⟨by omega, by omega⟩, show off + j - off = j by omega, getElem!_pos d' j hjl]
      rw [List.getElem?_eq_getElem (by simpa using hjl)] at hj
      simpa using hj
    · obtain ⟨x, _, rfl⟩ := List.mem_map.1 hv
      exact hO x
abbrev TmIn (D : List Tm) := { t : Tm // t ∈ D }
theorem sortT_ret {D : List Tm} {db : Option Nat} (hs : Sl w 62 1 a D.length cap (ptrs D) db) (hd : ∀ t ∈ D, ∃ p q, TBlk w t p q) (hne : ∀ t ∈ D, db ≠ some t.b) (hn : (D.map pr).Nodup) (hlen : D.length ≤ 1073741824) :
    Ret Try.prog 32 #[.slice a D.length cap, .func (.func 33) #[] #[]] w fun v w' => v = .tuple #[] ∧
      ∃ D', D'.Perm D ∧ Srt (D'.map pr) ∧ Sl w' 62 1 a D'.length cap (ptrs D') db ∧ Kept (fun i => db = some i) w w' := by
  cases hD : D with
  | nil =>
    subst hD
    intro k
    refine (AnyF.slices_SortFunc_none (P := Try.prog) (ρ := Try.sortT_ren) { Try.sortT with } a cap (.func (.func 33) #[] #[]) (dn w k)).mono fun e w' ⟨he, hw⟩ => ?_
    exact ⟨_, he, w, k, hw, Nat.le_refl _, rfl, [], .refl _, List.Pairwise.nil, hs, Kept.refl _ _⟩
  | cons t0 D0 =>
    rw [← hD]
    have hpos : 0 < D.length := by rw [hD]; simp
    obtain ⟨blk, off, rfl, rfl, hcells, hfree⟩ := hs.pos hpos
    intro k
    haveI : Inhabited (TmIn D) := ⟨⟨t0, by rw [hD]; exact List.mem_cons_self⟩⟩
    have hsz : D.attach.toArray.size = D.length := by simp
    have hblk : blk < w.heap.size := hs.lt rfl
    have hH : Go.Sort.Holds (fun x : TmIn D => ptr (some x.1.b)) (dn w k) blk off D.attach.toArray := fun j hj => by
      refine ⟨?_, hfree _⟩
      rw [getElem!_pos _ j hj]
      refine hcells j _ ?_
      have hj' : j < D.length := by rw [← hsz]; exact hj
      simp only [ptrs, List.getElem_toArray, List.getElem_attach, List.getElem?_map, List.getElem?_eq_getElem hj', Option.map_some]
    have hcmp : CmpReads Try.prog 33 #[] (fun x : TmIn D => ptr (some x.1.b)) (fun x y : TmIn D => ordT x.1 y.1) blk off D.attach.toArray.size (dn w k) := fun m os dk hdk x y => by
      obtain ⟨p, q, hT⟩ := hd x.1 x.2
      obtain ⟨p', q', hU⟩ := hd y.1 y.2
      have g : ∀ (v : Tm), v ∈ D → ∀ {p q}, TBlk w v p q → TBlk (sortWorld (fun x : TmIn D => ptr (some x.1.b)) (dn w k) blk off m dk os) v p q := fun v hv {p q} h => by
        unfold TBlk at *
        rw [heap_sortWorld (w := dn w k) (lt_of_at (w := w) h) fun e => hne v hv (by rw [e])]
        exact h
      have hr := order_ret (g x.1 x.2 hT) (g y.1 y.2 hU) (sortWorld (fun x : TmIn D => ptr (some x.1.b)) (dn w k) blk off m dk os).drawn
      rw [dn_self] at hr
      refine hr.mono fun e w' ⟨v, he, w1, k', hw', hk', hv, hw1⟩ => ⟨by rw [he, hv], k' - (sortWorld (fun x : TmIn D => ptr (some x.1.b)) (dn w k) blk off m dk os).drawn, ?_⟩
      rw [hw', hw1]
      show dn _ k' = dn _ _
      rw [Nat.add_sub_cancel' hk']
    have hlt : ltOf (fun x y : TmIn D => ordT x.1 y.1) = fun x y : TmIn D => elt (pr x.1) (pr y.1) := by
      funext x y
      exact ordE_lt _ _
    have eg : ∀ args w, (callFunc 33 args).run Try.prog w = .ok (.enter 33 args) w := fun args w => TFn.h args w
    have hS := Any.slices_SortFunc Try.sortT (fun x : TmIn D => ptr (some x.1.b)) (fun _ => rfl) (fun x y : TmIn D => ordT x.1 y.1) (by rw [hlt]; exact swo_elt (fun x : TmIn D => pr x.1)) 33 #[] blk off cap D.attach.toArray (dn w k) eg hcmp.lays hH hblk (by rw [hsz]; omega)
    rw [hsz] at hS
    refine hS.mono fun e w' ⟨he, d', n, os, hp, hsrt, hw'⟩ => ?_
    have hp' := hp
    rw [← hsz] at hp'
    have hperm := permIn_perm hp'
    have hps := hp'.1
    rw [hlt] at hsrt
    have hmap : (D.attach.toArray.toList.map fun x : TmIn D => x.1) = D := by rw [List.toList_toArray]; exact List.attach_map_subtype_val D
    have hP : (d'.toList.map fun x : TmIn D => x.1).Perm D := by
      have := hperm.map fun x : TmIn D => x.1
      rwa [hmap] at this
    have hnd : (d'.toList.map fun x : TmIn D => pr x.1).Nodup := by
      have h := (hP.map pr).nodup_iff.2 hn
      rwa [List.map_map] at h
    have hlen' : (d'.toList.map fun x : TmIn D => x.1).length = D.length := hP.length_eq
    refine ⟨_, he, w', w'.drawn, rfl, by rw [hw']; exact Nat.le_add_right _ _, rfl, d'.toList.map fun x : TmIn D => x.1, hP, ?_, ?_, ?_⟩
    · rw [List.map_map]
      exact sortedIn_srt (fun x : TmIn D => pr x.1) (by rw [hps, hsz]; exact hsrt) hnd
    · rw [hlen', hw']
      have h0 : Sl (dn w k) 62 1 (some ⟨blk, off, none⟩) D.attach.toArray.size cap (D.attach.toArray.toList.map fun x : TmIn D => ptr (some x.1.b)) (some blk) := by
        have e : (D.attach.toArray.toList.map fun x : TmIn D => ptr (some x.1.b)) = ptrs D := by
          unfold ptrs
          conv => rhs; rw [← hmap]
          rw [List.map_map]; rfl
        rw [hsz, e]
        exact hs.dn k
      have := sl_sorted (m := n) (os := os) (fun _ => rfl) hps h0
      rw [hsz] at this
      have e2 : ptrs (d'.toList.map fun x : TmIn D => x.1) = d'.toList.map fun x : TmIn D => ptr (some x.1.b) := by
        unfold ptrs; rw [List.map_map]; rfl
      rw [e2]
      exact this
    · rw [hw']
      have : Kept (fun i => i = blk) (dn w k) (sortWorld (fun x : TmIn D => ptr (some x.1.b)) (dn w k) blk off n d' os) := kept_sortWorld
      exact ⟨this.os, this.tape, this.output, this.size, fun i hi hni => this.block i hi fun e => hni (by rw [e])⟩
end Go.Proofs.Ytogfllhbgkeinaa.Wheel
