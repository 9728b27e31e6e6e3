/-
  WheelMoved: for every argument the statement's function returns true, and the arguments read behind the call as they did: no condition.
-/
import Derived.Test.YtogfllhbgkeinaaRow
set_option linter.unusedVariables false
set_option linter.unusedSimpArgs false
namespace Go.Proofs.Ytogfllhbgkeinaa.MovedRow
open Go.ChangeShapes Go.WideShapes Go.ChangeAt Go.RowKit Base Eng Wheel RowP

theorem i64_of {n : Int} (h : (Lit.int .i64 n).wf = true) : I64 n := by
  simpa [Lit.wf, IntKind.min, IntKind.max, IntKind.signed, IntKind.bits, I64] using h
set_option maxRecDepth 100000 in
theorem contract (H : Type) (enc : TypeId × Value → H) (W : World) (base : Nat) (args : Array Value) (ds gs : List (DataW H)) (before : List MemPlace)
    (hval : ∀ (j : Nat) t v, Try.f3.params[j]? = some t → args[j]? = some v → Value.okWide Try.prog W .any base t v)
    (hW : DataW.Whole enc Try.prog Try.f3.params.toList Rows.wheelMovedSpec.vars false W args.toList ds gs before) :
    Calls Try.prog 3 args W fun e W' => ∃ v, e = .returned v ∧ Rows.wheelMovedSpec.post enc Try.prog Try.f3 false true false false W args v W' := by
  have hW' := hW
  obtain ⟨p, q, hA0, hV, rfl, hfz, hnd⟩ := hW
  have hA : DataW.TrodAll enc Try.prog W 0 (fun _ => true) true Try.f3.params.toList args.toList ds p := hA0
  rw [Try.params3] at hA hval
  obtain ⟨v0, v1, v2, v3, d0, d1, d2, d3, p0, p1, p2, p3, rfl, rfl, rfl, h0, h1, h2, h3⟩ := trodAll_four hA
  obtain ⟨rfl, rfl⟩ := trodVars_none hV
  obtain ⟨x0, rfl, rfl, rfl, w0⟩ := open_int Try.underlying3 (hval 0 3 v0 rfl rfl) h0
  obtain ⟨k0, rfl, rfl, rfl, w2⟩ := open_int Try.underlying3 (hval 2 3 v2 rfl rfl) h2
  obtain ⟨t0, rfl, rfl, rfl, w3⟩ := open_int Try.underlying3 (hval 3 3 v3 rfl rfl) h3
  obtain ⟨a0, len, cap, rfl⟩ := okWide_slice Try.underlying22 (hval 1 22 v1 rfl rfl)
  obtain ⟨fuel, hf⟩ := h1
  have key : ∀ (fl : List Int) (b : Option Nat), Rd W 1 a0 len cap (nums fl) b → (∀ f ∈ fl, I64 f) →
      Calls Try.prog 3 #[.int .i64 x0, .slice a0 len cap, .int .i64 k0, .int .i64 t0] W fun e W' => ∃ v, e = .returned v ∧ Rows.wheelMovedSpec.post enc Try.prog Try.f3 false true false false W #[.int .i64 x0, .slice a0 len cap, .int .i64 k0, .int .i64 t0] v W' := fun fl b hs hI => by
    have h := moved_ret x0 k0 t0 (i64_of w0) (i64_of w2) (i64_of w3) hs hI W.drawn
    rw [dn_self] at h
    refine h.mono fun e W' ⟨v, he, W1, j, hw', _, hv, X⟩ => ⟨v, he, ?_⟩
    subst hv
    subst hw'
    have X' : Ext W (dn W1 j) := ⟨X.os, X.tape, X.output, X.size, X.block⟩
    exact post_true laidOut (ext_below X') hW' rfl (by kernel_rfl) (by kernel_rfl) Try.underlying4 rfl
  rcases open_ints Try.underlying22 Try.underlying3 (by kernel_rfl) hf with ⟨hc, -⟩ | ⟨a, l, c, zs, hc, -, hl, -, hz, -, hcell, hwf⟩
  · simp [Value.cells] at hc
    obtain ⟨rfl, rfl, rfl⟩ := hc
    exact key [] none .empty fun f hf => by cases hf
  · simp [Value.cells] at hc
    obtain ⟨rfl, rfl, rfl⟩ := hc
    have hzl : len ≤ zs.length := by rw [hz]; split <;> omega
    obtain ⟨b, hs⟩ := rd_ints hl hzl hcell
    exact key _ b hs fun f hf => i64_of (hwf f (List.mem_of_mem_take hf))

set_option maxRecDepth 100000 in
theorem lifted (os : Os) (started : os.Started) (H : Type) (enc : TypeId × Value → H) :
    ReturnsInHanded {} Try.checked os 3 .any (Rows.wheelMovedSpec.pre6 enc Try.prog Try.f3 Rows.wheelMovedRow.domain false) (Rows.wheelMovedSpec.post enc Try.prog Try.f3 false true false false) := by
  refine returnsInHanded_of_change (C := Try.checked) own started (by kernel_rfl) Try.func3
    (ChangeSpec.witness6 (enc := enc) (C := Try.checked) false ⟨#[], #[.int .i64 0, .slice none 0 0, .int .i64 0, .int .i64 0], []⟩ 8 (by kernel_rfl) (by kernel_rfl) (by kernel_rfl) (by kernel_rfl)) ?_
  intro W base args ds gs before hval hW _ _
  exact contract H enc W base args ds gs before hval hW

theorem over : Rows.wheelMovedRow.holds Try.pinned (OpenSpec.ofChange Rows.wheelMovedSpec) :=
  OpenClaim.holds_of_wide 3 Try.f3 rfl rfl rfl rfl rfl rfl rfl ⟨rfl, rfl, rfl, rfl, rfl⟩ rfl rfl rfl rfl rfl (by kernel_rfl) Try.func3 (by kernel_rfl)
    (of_decide_eq_true (by kernel_rfl)) (by unfold Func.isWrapper; first | (rw [if_pos (by decide +kernel)]; kernel_rfl) | (rw [if_neg (by decide +kernel)]; exact ⟨rfl, rfl⟩))
    (fun os started H enc _ => lifted os started H enc)

theorem proved : Rows.WheelMovedSaid := over
#print axioms proved
end Go.Proofs.Ytogfllhbgkeinaa.MovedRow
