/- EarleyMore: with one more production what was derived, and viable, still is, in as many ways at least. For every input. -/
import Derived.Test.YteheedbhmggcgaaRows
import Derived.Test.YteheedbhmggcgaaEyR
import Derived.Test.YteheedbhmggcgaaEU
import Derived.WalkKit
import Derived.ProofKit
namespace Go.Proofs.Yteheedbhmggcgaa
open Go Go.Vy Go.Proofs Go.ChangeShapes Go.WideShapes Go.ChangeAt Go.RowKit
set_option linter.unusedVariables false
theorem own_none : ownKnob Try.prog.godebug = none := by kernel_rfl
theorem laid_out : laidOutB Try.prog = true := by kernel_rfl
theorem read_params : ∀ t ∈ Try.f4.params.toList, Try.prog.readableRec t = true ∧ t < Try.prog.types.size := by
  intro t ht
  rw [Try.params4] at ht
  simp at ht
  rcases ht with rfl | rfl | rfl <;> exact ⟨by kernel_rfl, of_decide_eq_true (by kernel_rfl)⟩
theorem u39' : Try.prog.underlying 39 = some (.array 2 3) := by kernel_rfl
theorem cl39 : Try.prog.cellsOf 39 = 2 := by kernel_rfl
theorem open_pair {T : Type} {enc : TypeId × Value → T} {W : World} {sp : Nat → Bool} {held : Bool} {fuel : Nat} {cs : List Value} {x : DataW T × List MemPlace} (h : DataW.trod enc Try.prog W 0 sp held fuel 39 cs = some x) :
    ∃ a b : Int, cs = [iv a, iv b] ∧ (-9223372036854775808 ≤ a ∧ a ≤ 9223372036854775807) ∧ -9223372036854775808 ≤ b ∧ b ≤ 9223372036854775807 := by
  cases fuel with
  | zero => simp [DataW.trod] at h
  | succ n =>
    unfold DataW.trod at h
    rw [u39'] at h
    simp only [cl39, cl3] at h
    split at h
    · rename_i hl
      rw [Option.map_eq_some_iff] at h
      obtain ⟨ys, h1, _⟩ := h
      have k0 := mapM_some_get h1 0 0 (by simp)
      have k1 := mapM_some_get h1 1 1 (by simp)
      have hlen := mapM_some_length h1
      simp at hlen
      match ys, hlen with
      | [y0, y1], _ =>
        simp at k0 k1
        match cs, hl with
        | [c0, c1], _ =>
          simp at k0 k1
          obtain ⟨a, ha, ha2⟩ := open_int1 k0
          obtain ⟨b, hb, hb2⟩ := open_int1 k1
          injection ha with ha _
          injection hb with hb _
          subst ha; subst hb
          exact ⟨a, b, rfl, ha2, hb2⟩
    · cases h
theorem more_contract (T : Type) (enc : TypeId × Value → T) (W : World) (base : Nat) (args : Array Value) (ds gs : List (DataW T)) (before : List MemPlace)
    (hval : ∀ (j : Nat) t v, Try.f4.params[j]? = some t → args[j]? = some v → Value.okWide Try.prog W .any base t v)
    (hW : DataW.Whole enc Try.prog Try.f4.params.toList Rows.earleyMoreSpec.vars false W args.toList ds gs before)
    (hz : (DataW.weightsEach Try.prog (Try.f4.params.toList ++ Rows.earleyMoreSpec.plain.varTypes Try.prog) (ds ++ gs)).all (· ≤ reachBytes) = true) :
    Calls Try.prog 4 args W fun e W' => ∃ v, e = .returned v ∧ Rows.earleyMoreSpec.post enc Try.prog Try.f4 false true false false W args v W' := by
  have hW' := hW
  obtain ⟨p, q, hA0, hV, rfl, hfz, hnd⟩ := hW
  have hA : DataW.TrodAll enc Try.prog W 0 (fun _ => true) true Try.f4.params.toList args.toList ds p := hA0
  rw [Try.params4] at hA hval hz
  obtain ⟨v0, vs0, d0, ds0, p0, q0, hargs, rfl, rfl, h0, r0⟩ := trodAll_cons hA
  obtain ⟨v1, vs1, d1, ds1, p1, q1, rfl, rfl, rfl, h1, r1⟩ := trodAll_cons r0
  obtain ⟨v2, vs2, d2, ds2, p2, q2, rfl, rfl, rfl, h2, r2⟩ := trodAll_cons r1
  obtain ⟨rfl, rfl, rfl⟩ := trodAll_nil r2
  obtain rfl : args = #[v0, v1, v2] := by cases args; simp_all
  obtain ⟨rfl, rfl⟩ := trodVars_none hV
  have hfit0 : Fit Try.prog 27 d0 := args_fit hz (i := 0) rfl rfl
  have hfit2 : Fit Try.prog 28 d2 := args_fit hz (i := 2) rfl rfl
  obtain ⟨cs, rfl⟩ := okWide_fs f27 (hval 0 27 v0 rfl rfl)
  obtain ⟨n0, h0⟩ := h0
  obtain ⟨g, vt, vl, vp, vn, vd, rfl, hg, hpt⟩ := open_gram2 (by simpa [Value.cells] using h0) hfit0
  obtain ⟨n2, h2⟩ := h2
  rw [okWide_sl u28 (hval 2 28 v2 rfl rfl)] at h2
  obtain ⟨l, hl, hl1, hl2⟩ := open_is u28 u3 cl3 by3 h2 hfit2
  obtain ⟨hs, rfl⟩ := okWide_ar u39' (hval 1 39 v1 rfl rfl)
  obtain ⟨n1, h1⟩ := h1
  obtain ⟨a, b, rfl, ha, hb⟩ := open_pair (by simpa [Value.cells] using h1)
  refine ((more_spec W.heap vt vl vp vn vd v2 g l a b hg hl (by omega) hl2 ha hb hpt).2 W rfl).mono ?_
  rintro e W' ⟨v, rfl, hs, rfl, he⟩
  exact ⟨_, rfl, post_true laid_out read_params rfl (by rfl) u4 hW' rfl hs he⟩
set_option maxRecDepth 100000 in
theorem more_lifted (os : Os) (started : os.Started) (T : Type) (enc : TypeId × Value → T) :
    ReturnsInHanded {} Try.checked os 4 .any (Rows.earleyMoreSpec.pre6 enc Try.prog Try.f4 Rows.earleyMoreRow.domain false) (Rows.earleyMoreSpec.post enc Try.prog Try.f4 false true false false) := by
  refine returnsInHanded_of_change_sized (C := Try.checked) own_none started (by kernel_rfl) Try.func4
    (ChangeSpec.witness6 (enc := enc) (C := Try.checked) false ⟨#[], #[.agg #[.slice none 0 0, .slice none 0 0, .slice none 0 0, .slice none 0 0, .slice none 0 0], .agg #[.int .i64 0, .int .i64 0], .slice none 0 0], []⟩ 8 (by kernel_rfl) (by kernel_rfl) (by kernel_rfl) (by kernel_rfl)) ?_
  intro W base args ds gs before hval hW _ hz _
  exact more_contract T enc W base args ds gs before hval hW hz
theorem more_holds : Rows.EarleyMoreSaid :=
  OpenClaim.holds_of_wide 4 Try.f4 rfl rfl rfl rfl rfl rfl rfl ⟨rfl, rfl, rfl, rfl, rfl⟩ rfl rfl rfl rfl rfl (by kernel_rfl) Try.func4 (by kernel_rfl)
    (of_decide_eq_true (by kernel_rfl)) (by unfold Func.isWrapper; first | (rw [if_pos (by decide +kernel)]; kernel_rfl) | (rw [if_neg (by decide +kernel)]; exact ⟨rfl, rfl⟩))
    (fun os started T enc _ => more_lifted os started T enc)
#print axioms more_holds
end Go.Proofs.Yteheedbhmggcgaa
