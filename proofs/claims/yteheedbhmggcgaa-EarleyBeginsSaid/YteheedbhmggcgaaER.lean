/- EarleyBegins: terms of a grammar are derived just if they are so in one way at least; what begins viable terms is viable; what is derived is viable; no terms are viable. For every input. -/
import Derived.Test.YteheedbhmggcgaaRows
import Derived.Test.YteheedbhmggcgaaEyR
import Derived.Test.YteheedbhmggcgaaEQ
import Derived.WalkKit
import Derived.ProofKit
namespace Go.Proofs.Yteheedbhmggcgaa
open Go Go.Vy Go.Proofs Go.ChangeShapes Go.WideShapes Go.ChangeAt Go.RowKit
set_option linter.unusedVariables false
theorem own_none : ownKnob Try.prog.godebug = none := by kernel_rfl
theorem laid_out : laidOutB Try.prog = true := by kernel_rfl
theorem read_params : ∀ t ∈ Try.f3.params.toList, Try.prog.readableRec t = true ∧ t < Try.prog.types.size := by
  intro t ht
  rw [Try.params3] at ht
  simp at ht
  rcases ht with rfl | rfl | rfl <;> exact ⟨by kernel_rfl, of_decide_eq_true (by kernel_rfl)⟩
theorem begins_contract (T : Type) (enc : TypeId × Value → T) (W : World) (base : Nat) (args : Array Value) (ds gs : List (DataW T)) (before : List MemPlace)
    (hval : ∀ (j : Nat) t v, Try.f3.params[j]? = some t → args[j]? = some v → Value.okWide Try.prog W .any base t v)
    (hW : DataW.Whole enc Try.prog Try.f3.params.toList Rows.earleyBeginsSpec.vars false W args.toList ds gs before)
    (hz : (DataW.weightsEach Try.prog (Try.f3.params.toList ++ Rows.earleyBeginsSpec.plain.varTypes Try.prog) (ds ++ gs)).all (· ≤ reachBytes) = true) :
    Calls Try.prog 3 args W fun e W' => ∃ v, e = .returned v ∧ Rows.earleyBeginsSpec.post enc Try.prog Try.f3 false true false false W args v W' := by
  have hW' := hW
  obtain ⟨p, q, hA0, hV, rfl, hfz, hnd⟩ := hW
  have hA : DataW.TrodAll enc Try.prog W 0 (fun _ => true) true Try.f3.params.toList args.toList ds p := hA0
  rw [Try.params3] at hA hval hz
  obtain ⟨v0, vs0, d0, ds0, p0, q0, hargs, rfl, rfl, h0, r0⟩ := trodAll_cons hA
  obtain ⟨v1, vs1, d1, ds1, p1, q1, rfl, rfl, rfl, h1, r1⟩ := trodAll_cons r0
  obtain ⟨v2, vs2, d2, ds2, p2, q2, rfl, rfl, rfl, h2, r2⟩ := trodAll_cons r1
  obtain ⟨rfl, rfl, rfl⟩ := trodAll_nil r2
  obtain rfl : args = #[v0, v1, v2] := by cases args; simp_all
  obtain ⟨rfl, rfl⟩ := trodVars_none hV
  have hfit0 : Fit Try.prog 27 d0 := args_fit hz (i := 0) rfl rfl
  have hfit1 : Fit Try.prog 28 d1 := args_fit hz (i := 1) rfl rfl
  obtain ⟨cs, rfl⟩ := okWide_fs f27 (hval 0 27 v0 rfl rfl)
  obtain ⟨n0, h0⟩ := h0
  obtain ⟨g, vt, vl, vp, vn, vd, rfl, hg⟩ := open_gram (by simpa [Value.cells] using h0) hfit0
  obtain ⟨n1, h1⟩ := h1
  rw [okWide_sl u28 (hval 1 28 v1 rfl rfl)] at h1
  obtain ⟨l, hl, hl1, hl2⟩ := open_is u28 u3 cl3 by3 h1 hfit1
  obtain ⟨m, rfl, rfl, rfl, wm⟩ := open_int u3 (hval 2 3 v2 rfl rfl) h2
  have hm : -9223372036854775808 ≤ m ∧ m ≤ 9223372036854775807 := by
    simp only [Lit.wf, Bool.and_eq_true, decide_eq_true_eq] at wm
    exact ⟨by simpa [IntKind.min, IntKind.signed, IntKind.bits] using wm.1, by simpa [IntKind.max, IntKind.signed, IntKind.bits] using wm.2⟩
  refine ((begins_spec W.heap vt vl vp vn vd v1 g l m hg hl (by omega) hl2 hm).2 W rfl).mono ?_
  rintro e W' ⟨v, rfl, hs, rfl, he⟩
  exact ⟨_, rfl, post_true laid_out read_params rfl (by rfl) u4 hW' rfl hs he⟩
set_option maxRecDepth 100000 in
theorem begins_lifted (os : Os) (started : os.Started) (T : Type) (enc : TypeId × Value → T) :
    ReturnsInHanded {} Try.checked os 3 .any (Rows.earleyBeginsSpec.pre6 enc Try.prog Try.f3 Rows.earleyBeginsRow.domain false) (Rows.earleyBeginsSpec.post enc Try.prog Try.f3 false true false false) := by
  refine returnsInHanded_of_change_sized (C := Try.checked) own_none started (by kernel_rfl) Try.func3
    (ChangeSpec.witness6 (enc := enc) (C := Try.checked) false ⟨#[], #[.agg #[.slice none 0 0, .slice none 0 0, .slice none 0 0, .slice none 0 0, .slice none 0 0], .slice none 0 0, .int .i64 0], []⟩ 8 (by kernel_rfl) (by kernel_rfl) (by kernel_rfl) (by kernel_rfl)) ?_
  intro W base args ds gs before hval hW _ hz _
  exact begins_contract T enc W base args ds gs before hval hW hz
theorem begins_holds : Rows.EarleyBeginsSaid :=
  OpenClaim.holds_of_wide 3 Try.f3 rfl rfl rfl rfl rfl rfl rfl ⟨rfl, rfl, rfl, rfl, rfl⟩ rfl rfl rfl rfl rfl (by kernel_rfl) Try.func3 (by kernel_rfl)
    (of_decide_eq_true (by kernel_rfl)) (by unfold Func.isWrapper; first | (rw [if_pos (by decide +kernel)]; kernel_rfl) | (rw [if_neg (by decide +kernel)]; exact ⟨rfl, rfl⟩))
    (fun os started T enc _ => begins_lifted os started T enc)
#print axioms begins_holds
end Go.Proofs.Yteheedbhmggcgaa
