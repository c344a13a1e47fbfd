import Derived.Test.YteheedbhmggcgaaEyT
namespace Go.Proofs.Yteheedbhmggcgaa
open Go Go.Vy Go.Proofs
set_option linter.unusedSimpArgs false
set_option linter.unusedVariables false
theorem index_lev (H : Hp) (v : Value) (es : List (List Value)) (F : FuncId) (fa fb : Array Value) (p : Nat → Bool) (hv : Rde H v 2 es) (hl : es.length ≤ 2 ^ 47)
    (hp : ∀ H', Ext H H' → ∀ i, (h : i < es.length) → CallsV Try.prog F (fa ++ [(.agg es[i].toArray)].toArray ++ fb) H' (fun r H2 => r = .bool (p i) ∧ Ext H' H2)) :
    CallsV Try.prog 29 [v, .func (.func F) fa fb].toArray H (fun r H' => Ext H H' ∧ ∃ i : Int, r = .int .i64 i ∧ (i ≥ 0 ↔ ∃ j, j < es.length ∧ p j = true)) := by
  obtain ⟨a, cap, rfl, hcap, hc⟩ := hv
  refine calls_W (m := 19) Try.call29 Try.func29 rfl rfl (by decide +kernel) (by simp) ?_
  first | refine W_regK ?_ | refine W_seq (W_regK ?_)
  intro K hK; simp (maxSteps := 1000000) (disch := omega) only [BOps_nil, BOps_cons, Cont_eq, Bev, rd, ev, updO, wantD, optK_some, ↓reduceIte, List.map]
  refine hK _ _ ?_; clear hK K
  first | refine W_regK ?_ | refine W_seq (W_regK ?_)
  intro K hK; simp (maxSteps := 1000000) (disch := omega) only [BOps_nil, BOps_cons, Cont_eq, Bev, rd, rdB, ev, updO, upd, wantD, argf, optK_some, lenV, ↓reduceIte, List.map, reduceCtorEq, u23]
  refine hK _ _ ?_; clear hK K
  first | refine W_seq (W_block (W_loop (fun k f H' => ∃ j : Nat, j ≤ es.length ∧ k = es.length - j ∧ f 0 = .slice a es.length cap ∧ f 1 = .func (.func F) fa fb ∧ f 7 = .int .i64 es.length ∧ f 8 = .int .i64 j ∧ Ext H H' ∧ ∀ i, i < j → p i = false) es.length ?_ ?_)) | refine W_block (W_loop (fun k f H' => ∃ j : Nat, j ≤ es.length ∧ k = es.length - j ∧ f 0 = .slice a es.length cap ∧ f 1 = .func (.func F) fa fb ∧ f 7 = .int .i64 es.length ∧ f 8 = .int .i64 j ∧ Ext H H' ∧ ∀ i, i < j → p i = false) es.length ?_ ?_)
  · refine ⟨0, by omega, by omega, ?_, ?_, ?_, ?_, .refl _, by omega⟩ <;> simp [upd, argf]
  · rintro k f H' ⟨j, hj, rfl, e0, e1, e7, e8, hE, hn⟩
    first | refine W_regK ?_ | refine W_seq (W_regK ?_)
    intro K hK; simp (maxSteps := 1000000) (disch := omega) only [BOps_nil, BOps_cons, Cont_eq, Bev, rd, ev, updO, wantD, bin, optK_some, ↓reduceIte, List.map, ne_eq, not_true_eq_false, e7, e8]
    refine hK _ _ ?_; clear hK K
    first | refine W_if (t := _) (by simp only [ev, upd, ↓reduceIte]; rfl) ?_ ?_ | refine W_cond (t := _) (by simp only [ev, upd, argf, Nat.reduceEqDiff, ↓reduceIte, reduceCtorEq, e7, e8]; rfl) ?_ ?_
    · intro h
      have hlt : j < es.length := by simpa using h
      obtain ⟨b, o, rfl, hld⟩ := hc j hlt
      refine W_skip ?_; try simp only [thenQ]
      first | refine W_seq (W_block ?_) | refine W_block ?_
      first | refine W_regK ?_ | refine W_seq (W_regK ?_)
      intro K hK; simp (maxSteps := 1000000) (disch := omega) only [BOps_nil, BOps_cons, Cont_eq, Bev, rd, ev, updO, upd, wantD, optK_some, Nat.reduceEqDiff, ↓reduceIte, List.map, e8]
      refine hK _ _ ?_; clear hK K
      have hld' : ldn H' 2 ⟨b, o + j * 2, none⟩ = some es[j] := by rw [ldn_ext hE hld]
      first | refine W_regK ?_ | refine W_seq (W_regK ?_)
      intro K hK; simp (maxSteps := 1000000) (disch := omega) only [BOps_cons, Cont_eq, Bev, rd, ev, updO, upd, wantD, optK_some, Nat.reduceEqDiff, ↓reduceIte, List.map, List.map_toArray, reduceCtorEq, inI_pos, Option.map_some, ixk23, ld42, e0, e1, Int.toNat_natCast, hld']
      refine (hp H' hE j hlt).mono ?_; rintro r H2 ⟨rfl, hE2⟩
      refine hK _ _ ?_; clear hK K
      first | refine W_if (t := _) (by simp only [ev]; rfl) ?_ ?_ | refine W_cond (t := _) (by simp only [ev]; rfl) ?_ ?_
      · intro hpj
        first | refine W_regK ?_ | refine W_seq (W_regK ?_)
        intro K hK; simp (maxSteps := 1000000) (disch := omega) only [BOps_nil, BOps_cons, Cont_eq, Bev, rd, ev, updO, upd, wantD, optK_some, Nat.reduceEqDiff, ↓reduceIte, List.map]
        refine hK _ _ ?_; clear hK K
        refine W_ret ?_; simp only [thenQ, blockQ, retQ, Try.results29, resV1, Option.some.injEq, exists_eq_left', upd, ↓reduceIte, List.toList_toArray]
        exact ⟨hE.trans hE2, _, rfl, ⟨fun _ => ⟨j, hlt, hpj⟩, fun _ => by omega⟩⟩
      · intro hpj
        refine W_skip ?_; try simp only [thenQ, blockQ]
        refine W_reg ?_; simp (maxSteps := 1000000) (disch := omega) only [BOps_nil, BOps_cons, Cont_eq, Bev, rd, ev, updO, upd, wantD, bin, optK_some, Nat.reduceEqDiff, ↓reduceIte, List.map, ne_eq, not_true_eq_false, wrapi, Int.reduceNeg, e8]
        simp only [thenQ]
        refine ⟨es.length - (j + 1), by omega, j + 1, by omega, rfl, by simp [upd, e0], by simp [upd, e1], by simp [upd, e7], by simp [upd], hE.trans hE2, ?_⟩
        · intro i hi
          by_cases e : i = j
          · rw [e]; exact hpj
          · exact hn i (by omega)
    · intro h
      have hge : j = es.length := by simp at h; omega
      refine W_exit ?_; simp only [thenQ, blockQ, ↓reduceIte]
      first | refine W_regK ?_ | refine W_seq (W_regK ?_)
      intro K hK; simp (maxSteps := 1000000) (disch := omega) only [BOps_nil, BOps_cons, Cont_eq, Bev, rd, ev, updO, wantD, optK_some, ↓reduceIte, List.map, Int.reduceNeg]
      refine hK _ _ ?_; clear hK K
      refine W_ret ?_; simp only [retQ, Try.results29, resV1, Option.some.injEq, exists_eq_left', upd, ↓reduceIte, List.toList_toArray, Int.reduceNeg]
      exact ⟨hE, _, rfl, ⟨fun h => by omega, fun ⟨i, hi, hpi⟩ => by rw [hn i (by omega)] at hpi; simp at hpi⟩⟩
theorem contains_lev (H : Hp) (v : Value) (es : List (List Value)) (F : FuncId) (fa fb : Array Value) (p : Nat → Bool) (hv : Rde H v 2 es) (hl : es.length ≤ 2 ^ 47)
    (hp : ∀ H', Ext H H' → ∀ i, (h : i < es.length) → CallsV Try.prog F (fa ++ [(.agg es[i].toArray)].toArray ++ fb) H' (fun r H2 => r = .bool (p i) ∧ Ext H' H2)) :
    CallsV Try.prog 18 [v, .func (.func F) fa fb].toArray H (fun r H' => Ext H H' ∧ ∃ b : Bool, r = .bool b ∧ (b = true ↔ ∃ j, j < es.length ∧ p j = true)) := by
  refine calls_W (m := 9) Try.call18 Try.func18 rfl rfl (by decide +kernel) (by simp) ?_
  first | refine W_regK ?_ | refine W_seq (W_regK ?_)
  intro K hK; simp (maxSteps := 1000000) (disch := omega) only [BOps_nil, BOps_cons, Cont_eq, Bev, rd, ev, updO, wantD, optK_some, ↓reduceIte, List.map]
  refine hK _ _ ?_; clear hK K
  first | refine W_regK ?_ | refine W_seq (W_regK ?_)
  intro K hK; simp (maxSteps := 1000000) (disch := omega) only [BOps_cons, Cont_eq, Bev, rd, ev, updO, upd, wantD, argf, optK_some, Nat.reduceEqDiff, ↓reduceIte, List.map, List.map_toArray, reduceCtorEq, List.append_toArray, List.append_nil, List.nil_append]
  refine (index_lev H v es F fa fb p hv hl hp).mono ?_; rintro r H2 ⟨hE, i, rfl, hi⟩
  simp (maxSteps := 1000000) (disch := omega) only [BOps_nil, BOps_cons, Cont_eq, Bev, rd, ev, updO, upd, wantD, bin, optK_some, ↓reduceIte, ne_eq, not_true_eq_false]
  refine hK _ _ ?_; clear hK K
  refine W_ret ?_; simp only [retQ, Try.results18, resV1, Option.some.injEq, exists_eq_left', upd, ↓reduceIte, List.toList_toArray]
  exact ⟨hE, _, rfl, by simpa using hi⟩
theorem index_prod (H : Hp) (v : Value) (es : List (List Value)) (F : FuncId) (fa fb : Array Value) (p : Nat → Bool) (hv : Rde H v 4 es) (hl : es.length ≤ 2 ^ 47)
    (hp : ∀ H', Ext H H' → ∀ i, (h : i < es.length) → CallsV Try.prog F (fa ++ [(.agg es[i].toArray)].toArray ++ fb) H' (fun r H2 => r = .bool (p i) ∧ Ext H' H2)) :
    CallsV Try.prog 38 [v, .func (.func F) fa fb].toArray H (fun r H' => Ext H H' ∧ ∃ i : Int, r = .int .i64 i ∧ (i ≥ 0 ↔ ∃ j, j < es.length ∧ p j = true)) := by
  obtain ⟨a, cap, rfl, hcap, hc⟩ := hv
  refine calls_W (m := 19) Try.call38 Try.func38 rfl rfl (by decide +kernel) (by simp) ?_
  first | refine W_regK ?_ | refine W_seq (W_regK ?_)
  intro K hK; simp (maxSteps := 1000000) (disch := omega) only [BOps_nil, BOps_cons, Cont_eq, Bev, rd, ev, updO, wantD, optK_some, ↓reduceIte, List.map]
  refine hK _ _ ?_; clear hK K
  first | refine W_regK ?_ | refine W_seq (W_regK ?_)
  intro K hK; simp (maxSteps := 1000000) (disch := omega) only [BOps_nil, BOps_cons, Cont_eq, Bev, rd, rdB, ev, updO, upd, wantD, argf, optK_some, lenV, ↓reduceIte, List.map, reduceCtorEq, u25]
  refine hK _ _ ?_; clear hK K
  first | refine W_seq (W_block (W_loop (fun k f H' => ∃ j : Nat, j ≤ es.length ∧ k = es.length - j ∧ f 0 = .slice a es.length cap ∧ f 1 = .func (.func F) fa fb ∧ f 7 = .int .i64 es.length ∧ f 8 = .int .i64 j ∧ Ext H H' ∧ ∀ i, i < j → p i = false) es.length ?_ ?_)) | refine W_block (W_loop (fun k f H' => ∃ j : Nat, j ≤ es.length ∧ k = es.length - j ∧ f 0 = .slice a es.length cap ∧ f 1 = .func (.func F) fa fb ∧ f 7 = .int .i64 es.length ∧ f 8 = .int .i64 j ∧ Ext H H' ∧ ∀ i, i < j → p i = false) es.length ?_ ?_)
  · refine ⟨0, by omega, by omega, ?_, ?_, ?_, ?_, .refl _, by omega⟩ <;> simp [upd, argf]
  · rintro k f H' ⟨j, hj, rfl, e0, e1, e7, e8, hE, hn⟩
    first | refine W_regK ?_ | refine W_seq (W_regK ?_)
    intro K hK; simp (maxSteps := 1000000) (disch := omega) only [BOps_nil, BOps_cons, Cont_eq, Bev, rd, ev, updO, wantD, bin, optK_some, ↓reduceIte, List.map, ne_eq, not_true_eq_false, e7, e8]
    refine hK _ _ ?_; clear hK K
    first | refine W_if (t := _) (by simp only [ev, upd, ↓reduceIte]; rfl) ?_ ?_ | refine W_cond (t := _) (by simp only [ev, upd, argf, Nat.reduceEqDiff, ↓reduceIte, reduceCtorEq, e7, e8]; rfl) ?_ ?_
    · intro h
      have hlt : j < es.length := by simpa using h
      obtain ⟨b, o, rfl, hld⟩ := hc j hlt
      refine W_skip ?_; try simp only [thenQ]
      first | refine W_seq (W_block ?_) | refine W_block ?_
      first | refine W_regK ?_ | refine W_seq (W_regK ?_)
      intro K hK; simp (maxSteps := 1000000) (disch := omega) only [BOps_nil, BOps_cons, Cont_eq, Bev, rd, ev, updO, upd, wantD, optK_some, Nat.reduceEqDiff, ↓reduceIte, List.map, e8]
      refine hK _ _ ?_; clear hK K
      have hld' : ldn H' 4 ⟨b, o + j * 4, none⟩ = some es[j] := by rw [ldn_ext hE hld]
      first | refine W_regK ?_ | refine W_seq (W_regK ?_)
      intro K hK; simp (maxSteps := 1000000) (disch := omega) only [BOps_cons, Cont_eq, Bev, rd, ev, updO, upd, wantD, optK_some, Nat.reduceEqDiff, ↓reduceIte, List.map, List.map_toArray, reduceCtorEq, inI_pos, Option.map_some, ixk25, ld44, e0, e1, Int.toNat_natCast, hld']
      refine (hp H' hE j hlt).mono ?_; rintro r H2 ⟨rfl, hE2⟩
      refine hK _ _ ?_; clear hK K
      first | refine W_if (t := _) (by simp only [ev]; rfl) ?_ ?_ | refine W_cond (t := _) (by simp only [ev]; rfl) ?_ ?_
      · intro hpj
        first | refine W_regK ?_ | refine W_seq (W_regK ?_)
        intro K hK; simp (maxSteps := 1000000) (disch := omega) only [BOps_nil, BOps_cons, Cont_eq, Bev, rd, ev, updO, upd, wantD, optK_some, Nat.reduceEqDiff, ↓reduceIte, List.map]
        refine hK _ _ ?_; clear hK K
        refine W_ret ?_; simp only [thenQ, blockQ, retQ, Try.results38, resV1, Option.some.injEq, exists_eq_left', upd, ↓reduceIte, List.toList_toArray]
        exact ⟨hE.trans hE2, _, rfl, ⟨fun _ => ⟨j, hlt, hpj⟩, fun _ => by omega⟩⟩
      · intro hpj
        refine W_skip ?_; try simp only [thenQ, blockQ]
        refine W_reg ?_; simp (maxSteps := 1000000) (disch := omega) only [BOps_nil, BOps_cons, Cont_eq, Bev, rd, ev, updO, upd, wantD, bin, optK_some, Nat.reduceEqDiff, ↓reduceIte, List.map, ne_eq, not_true_eq_false, wrapi, Int.reduceNeg, e8]
        simp only [thenQ]
        refine ⟨es.length - (j + 1), by omega, j + 1, by omega, rfl, by simp [upd, e0], by simp [upd, e1], by simp [upd, e7], by simp [upd], hE.trans hE2, ?_⟩
        · intro i hi
          by_cases e : i = j
          · rw [e]; exact hpj
          · exact hn i (by omega)
    · intro h
      have hge : j = es.length := by simp at h; omega
      refine W_exit ?_; simp only [thenQ, blockQ, ↓reduceIte]
      first | refine W_regK ?_ | refine W_seq (W_regK ?_)
      intro K hK; simp (maxSteps := 1000000) (disch := omega) only [BOps_nil, BOps_cons, Cont_eq, Bev, rd, ev, updO, wantD, optK_some, ↓reduceIte, List.map, Int.reduceNeg]
      refine hK _ _ ?_; clear hK K
      refine W_ret ?_; simp only [retQ, Try.results38, resV1, Option.some.injEq, exists_eq_left', upd, ↓reduceIte, List.toList_toArray, Int.reduceNeg]
      exact ⟨hE, _, rfl, ⟨fun h => by omega, fun ⟨i, hi, hpi⟩ => by rw [hn i (by omega)] at hpi; simp at hpi⟩⟩
theorem contains_prod (H : Hp) (v : Value) (es : List (List Value)) (F : FuncId) (fa fb : Array Value) (p : Nat → Bool) (hv : Rde H v 4 es) (hl : es.length ≤ 2 ^ 47)
    (hp : ∀ H', Ext H H' → ∀ i, (h : i < es.length) → CallsV Try.prog F (fa ++ [(.agg es[i].toArray)].toArray ++ fb) H' (fun r H2 => r = .bool (p i) ∧ Ext H' H2)) :
    CallsV Try.prog 27 [v, .func (.func F) fa fb].toArray H (fun r H' => Ext H H' ∧ ∃ b : Bool, r = .bool b ∧ (b = true ↔ ∃ j, j < es.length ∧ p j = true)) := by
  refine calls_W (m := 9) Try.call27 Try.func27 rfl rfl (by decide +kernel) (by simp) ?_
  first | refine W_regK ?_ | refine W_seq (W_regK ?_)
  intro K hK; simp (maxSteps := 1000000) (disch := omega) only [BOps_nil, BOps_cons, Cont_eq, Bev, rd, ev, updO, wantD, optK_some, ↓reduceIte, List.map]
  refine hK _ _ ?_; clear hK K
  first | refine W_regK ?_ | refine W_seq (W_regK ?_)
  intro K hK; simp (maxSteps := 1000000) (disch := omega) only [BOps_cons, Cont_eq, Bev, rd, ev, updO, upd, wantD, argf, optK_some, Nat.reduceEqDiff, ↓reduceIte, List.map, List.map_toArray, reduceCtorEq, List.append_toArray, List.append_nil, List.nil_append]
  refine (index_prod H v es F fa fb p hv hl hp).mono ?_; rintro r H2 ⟨hE, i, rfl, hi⟩
  simp (maxSteps := 1000000) (disch := omega) only [BOps_nil, BOps_cons, Cont_eq, Bev, rd, ev, updO, upd, wantD, bin, optK_some, ↓reduceIte, ne_eq, not_true_eq_false]
  refine hK _ _ ?_; clear hK K
  refine W_ret ?_; simp only [retQ, Try.results27, resV1, Option.some.injEq, exists_eq_left', upd, ↓reduceIte, List.toList_toArray]
  exact ⟨hE, _, rfl, by simpa using hi⟩
theorem index_int (H : Hp) (v : Value) (es : List Value) (F : FuncId) (fa fb : Array Value) (p : Nat → Bool) (hv : Rd H v es) (hl : es.length ≤ 2 ^ 47)
    (hp : ∀ H', Ext H H' → ∀ i, (h : i < es.length) → CallsV Try.prog F (fa ++ [es[i]].toArray ++ fb) H' (fun r H2 => r = .bool (p i) ∧ Ext H' H2)) :
    CallsV Try.prog 39 [v, .func (.func F) fa fb].toArray H (fun r H' => Ext H H' ∧ ∃ i : Int, r = .int .i64 i ∧ (i ≥ 0 ↔ ∃ j, j < es.length ∧ p j = true)) := by
  obtain ⟨a, cap, rfl, hcap, hc⟩ := hv
  refine calls_W (m := 19) Try.call39 Try.func39 rfl rfl (by decide +kernel) (by simp) ?_
  first | refine W_regK ?_ | refine W_seq (W_regK ?_)
  intro K hK; simp (maxSteps := 1000000) (disch := omega) only [BOps_nil, BOps_cons, Cont_eq, Bev, rd, ev, updO, wantD, optK_some, ↓reduceIte, List.map]
  refine hK _ _ ?_; clear hK K
  first | refine W_regK ?_ | refine W_seq (W_regK ?_)
  intro K hK; simp (maxSteps := 1000000) (disch := omega) only [BOps_nil, BOps_cons, Cont_eq, Bev, rd, rdB, ev, updO, upd, wantD, argf, optK_some, lenV, ↓reduceIte, List.map, reduceCtorEq, u28]
  refine hK _ _ ?_; clear hK K
  first | refine W_seq (W_block (W_loop (fun k f H' => ∃ j : Nat, j ≤ es.length ∧ k = es.length - j ∧ f 0 = .slice a es.length cap ∧ f 1 = .func (.func F) fa fb ∧ f 7 = .int .i64 es.length ∧ f 8 = .int .i64 j ∧ Ext H H' ∧ ∀ i, i < j → p i = false) es.length ?_ ?_)) | refine W_block (W_loop (fun k f H' => ∃ j : Nat, j ≤ es.length ∧ k = es.length - j ∧ f 0 = .slice a es.length cap ∧ f 1 = .func (.func F) fa fb ∧ f 7 = .int .i64 es.length ∧ f 8 = .int .i64 j ∧ Ext H H' ∧ ∀ i, i < j → p i = false) es.length ?_ ?_)
  · refine ⟨0, by omega, by omega, ?_, ?_, ?_, ?_, .refl _, by omega⟩ <;> simp [upd, argf]
  · rintro k f H' ⟨j, hj, rfl, e0, e1, e7, e8, hE, hn⟩
    first | refine W_regK ?_ | refine W_seq (W_regK ?_)
    intro K hK; simp (maxSteps := 1000000) (disch := omega) only [BOps_nil, BOps_cons, Cont_eq, Bev, rd, ev, updO, wantD, bin, optK_some, ↓reduceIte, List.map, ne_eq, not_true_eq_false, e7, e8]
    refine hK _ _ ?_; clear hK K
    first | refine W_if (t := _) (by simp only [ev, upd, ↓reduceIte]; rfl) ?_ ?_ | refine W_cond (t := _) (by simp only [ev, upd, argf, Nat.reduceEqDiff, ↓reduceIte, reduceCtorEq, e7, e8]; rfl) ?_ ?_
    · intro h
      have hlt : j < es.length := by simpa using h
      obtain ⟨b, o, rfl, hld⟩ := hc j hlt
      refine W_skip ?_; try simp only [thenQ]
      first | refine W_seq (W_block ?_) | refine W_block ?_
      first | refine W_regK ?_ | refine W_seq (W_regK ?_)
      intro K hK; simp (maxSteps := 1000000) (disch := omega) only [BOps_nil, BOps_cons, Cont_eq, Bev, rd, ev, updO, upd, wantD, optK_some, Nat.reduceEqDiff, ↓reduceIte, List.map, e8]
      refine hK _ _ ?_; clear hK K
      have hld' : ldc H' ⟨b, o + j, none⟩ = some es[j] := by rw [ldc_ext hE (by rw [hld, List.getElem?_eq_getElem hlt])]
      first | refine W_regK ?_ | refine W_seq (W_regK ?_)
      intro K hK; simp (maxSteps := 1000000) (disch := omega) only [BOps_cons, Cont_eq, Bev, rd, ev, updO, upd, wantD, optK_some, Nat.reduceEqDiff, ↓reduceIte, List.map, List.map_toArray, reduceCtorEq, inI_pos, ld3, ixk28, e0, e1, Int.toNat_natCast, Nat.mul_one, hld']
      refine (hp H' hE j hlt).mono ?_; rintro r H2 ⟨rfl, hE2⟩
      refine hK _ _ ?_; clear hK K
      first | refine W_if (t := _) (by simp only [ev]; rfl) ?_ ?_ | refine W_cond (t := _) (by simp only [ev]; rfl) ?_ ?_
      · intro hpj
        first | refine W_regK ?_ | refine W_seq (W_regK ?_)
        intro K hK; simp (maxSteps := 1000000) (disch := omega) only [BOps_nil, BOps_cons, Cont_eq, Bev, rd, ev, updO, upd, wantD, optK_some, Nat.reduceEqDiff, ↓reduceIte, List.map]
        refine hK _ _ ?_; clear hK K
        refine W_ret ?_; simp only [thenQ, blockQ, retQ, Try.results39, resV1, Option.some.injEq, exists_eq_left', upd, ↓reduceIte, List.toList_toArray]
        exact ⟨hE.trans hE2, _, rfl, ⟨fun _ => ⟨j, hlt, hpj⟩, fun _ => by omega⟩⟩
      · intro hpj
        refine W_skip ?_; try simp only [thenQ, blockQ]
        refine W_reg ?_; simp (maxSteps := 1000000) (disch := omega) only [BOps_nil, BOps_cons, Cont_eq, Bev, rd, ev, updO, upd, wantD, bin, optK_some, Nat.reduceEqDiff, ↓reduceIte, List.map, ne_eq, not_true_eq_false, wrapi, Int.reduceNeg, e8]
        simp only [thenQ]
        refine ⟨es.length - (j + 1), by omega, j + 1, by omega, rfl, by simp [upd, e0], by simp [upd, e1], by simp [upd, e7], by simp [upd], hE.trans hE2, ?_⟩
        · intro i hi
          by_cases e : i = j
          · rw [e]; exact hpj
          · exact hn i (by omega)
    · intro h
      have hge : j = es.length := by simp at h; omega
      refine W_exit ?_; simp only [thenQ, blockQ, ↓reduceIte]
      first | refine W_regK ?_ | refine W_seq (W_regK ?_)
      intro K hK; simp (maxSteps := 1000000) (disch := omega) only [BOps_nil, BOps_cons, Cont_eq, Bev, rd, ev, updO, wantD, optK_some, ↓reduceIte, List.map, Int.reduceNeg]
      refine hK _ _ ?_; clear hK K
      refine W_ret ?_; simp only [retQ, Try.results39, resV1, Option.some.injEq, exists_eq_left', upd, ↓reduceIte, List.toList_toArray, Int.reduceNeg]
      exact ⟨hE, _, rfl, ⟨fun h => by omega, fun ⟨i, hi, hpi⟩ => by rw [hn i (by omega)] at hpi; simp at hpi⟩⟩
theorem contains_int (H : Hp) (v : Value) (es : List Value) (F : FuncId) (fa fb : Array Value) (p : Nat → Bool) (hv : Rd H v es) (hl : es.length ≤ 2 ^ 47)
    (hp : ∀ H', Ext H H' → ∀ i, (h : i < es.length) → CallsV Try.prog F (fa ++ [es[i]].toArray ++ fb) H' (fun r H2 => r = .bool (p i) ∧ Ext H' H2)) :
    CallsV Try.prog 30 [v, .func (.func F) fa fb].toArray H (fun r H' => Ext H H' ∧ ∃ b : Bool, r = .bool b ∧ (b = true ↔ ∃ j, j < es.length ∧ p j = true)) := by
  refine calls_W (m := 9) Try.call30 Try.func30 rfl rfl (by decide +kernel) (by simp) ?_
  first | refine W_regK ?_ | refine W_seq (W_regK ?_)
  intro K hK; simp (maxSteps := 1000000) (disch := omega) only [BOps_nil, BOps_cons, Cont_eq, Bev, rd, ev, updO, wantD, optK_some, ↓reduceIte, List.map]
  refine hK _ _ ?_; clear hK K
  first | refine W_regK ?_ | refine W_seq (W_regK ?_)
  intro K hK; simp (maxSteps := 1000000) (disch := omega) only [BOps_cons, Cont_eq, Bev, rd, ev, updO, upd, wantD, argf, optK_some, Nat.reduceEqDiff, ↓reduceIte, List.map, List.map_toArray, reduceCtorEq, List.append_toArray, List.append_nil, List.nil_append]
  refine (index_int H v es F fa fb p hv hl hp).mono ?_; rintro r H2 ⟨hE, i, rfl, hi⟩
  simp (maxSteps := 1000000) (disch := omega) only [BOps_nil, BOps_cons, Cont_eq, Bev, rd, ev, updO, upd, wantD, bin, optK_some, ↓reduceIte, ne_eq, not_true_eq_false]
  refine hK _ _ ?_; clear hK K
  refine W_ret ?_; simp only [retQ, Try.results30, resV1, Option.some.injEq, exists_eq_left', upd, ↓reduceIte, List.toList_toArray]
  exact ⟨hE, _, rfl, by simpa using hi⟩
end Go.Proofs.Yteheedbhmggcgaa
