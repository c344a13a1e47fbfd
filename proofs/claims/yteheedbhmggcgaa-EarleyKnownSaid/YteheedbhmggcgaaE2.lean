import Derived.Test.YteheedbhmggcgaaE1
namespace Go.Proofs.Yteheedbhmggcgaa
open Go Go.Vy Go.Proofs
set_option linter.unusedSimpArgs false
set_option linter.unusedVariables false
theorem calls_ext {F : FuncId} {args : Array Value} {H : Hp} {Q : Value → Hp → Prop} {Q' : Value → Hp → Prop} (h : CallsV Try.prog F args H Q) (hq : ∀ r H', Q r H' → Q' r H') : CallsV Try.prog F args H Q' := h.mono hq
def mayBindB (n k : Int) : Bool := decide (k ≥ 0) && decide (k ≤ 3) && decide (n ≥ 0) && decide (n ≤ 128) && ((n == 0) == (k == 0))
theorem mayBind_spec (H : Hp) (n k : Int) : CallsV Try.prog 20 [.agg #[iv n, iv k]].toArray H (fun r H' => r = .bool (mayBindB n k) ∧ Ext H H') := by
  refine calls_W (m := 30) Try.call20 Try.func20 rfl rfl (by decide +kernel) (by simp) ?_
  first | refine W_regK ?_ | refine W_seq (W_regK ?_)
  intro K hK; simp (maxSteps := 1000000) (disch := omega) only [BOps_nil, BOps_cons, Cont_eq, Bev, rd, ev, updO, wantD, argf, optK_some, ↓reduceIte, List.map, List.toList_toArray, Value.cells]
  have hE := (Ext.refl H).push (row 42 [.int .i64 n, .int .i64 k])
  have hb := get_new H (row 42 [.int .i64 n, .int .i64 k])
  generalize hk0 : H.size = k0 at *
  generalize H.push _ = H1 at *
  refine hK _ _ ?_; clear hK K
  have l0 : ldc H1 ⟨k0, 0, none⟩ = some (.int .i64 n) := ldc_row hb 0
  have l1 : ldc H1 ⟨k0, 1, none⟩ = some (.int .i64 k) := ldc_row hb 1
  unfold mayBindB
  cases c1 : decide (k ≥ 0)
  · first | refine W_regK ?_ | refine W_seq (W_regK ?_)
    intro K hK; simp (maxSteps := 1000000) (disch := omega) only [BOps_nil, BOps_cons, Cont_eq, Bev, rd, ev, updO, upd, wantD, List.getElem?_cons_succ, List.getElem?_cons_zero, vft, bin, optK_some, Nat.reduceEqDiff, ↓reduceIte, List.map, ne_eq, not_true_eq_false, Bool.false_eq_true, Nat.zero_add, ld3, fld42_1, l1, c1]
    refine hK _ _ ?_; clear hK K
    refine W_ret ?_; simp only [retQ, Try.results20, resV1, Option.some.injEq, exists_eq_left', upd, ↓reduceIte, List.toList_toArray, true_and, Bool.false_and]
    exact hE
  cases c2 : decide (k ≤ 3)
  · first | refine W_regK ?_ | refine W_seq (W_regK ?_)
    intro K hK; simp (maxSteps := 1000000) (disch := omega) only [BOps_nil, BOps_cons, Cont_eq, Bev, rd, ev, updO, upd, wantD, List.getElem?_cons_succ, List.getElem?_cons_zero, vft, vtt, bin, optK_some, Nat.reduceEqDiff, ↓reduceIte, List.map, ne_eq, not_true_eq_false, Bool.false_eq_true, Nat.zero_add, ld3, fld42_1, l1, c1, c2]
    refine hK _ _ ?_; clear hK K
    refine W_ret ?_; simp only [retQ, Try.results20, resV1, Option.some.injEq, exists_eq_left', upd, ↓reduceIte, List.toList_toArray, true_and, Bool.false_and, Bool.and_false]
    exact hE
  cases c3 : decide (n ≥ 0)
  · first | refine W_regK ?_ | refine W_seq (W_regK ?_)
    intro K hK; simp (maxSteps := 1000000) (disch := omega) only [BOps_nil, BOps_cons, Cont_eq, Bev, rd, ev, updO, upd, wantD, List.getElem?_cons_succ, List.getElem?_cons_zero, vft, vtt, bin, optK_some, Nat.reduceEqDiff, ↓reduceIte, List.map, ne_eq, not_true_eq_false, Bool.false_eq_true, Nat.zero_add, Nat.add_zero, ld3, fld42_0, fld42_1, l0, l1, c1, c2, c3]
    refine hK _ _ ?_; clear hK K
    refine W_ret ?_; simp only [retQ, Try.results20, resV1, Option.some.injEq, exists_eq_left', upd, ↓reduceIte, List.toList_toArray, true_and, Bool.false_and, Bool.true_and, Bool.and_false]
    exact hE
  cases c4 : decide (n ≤ 128)
  · first | refine W_regK ?_ | refine W_seq (W_regK ?_)
    intro K hK; simp (maxSteps := 1000000) (disch := omega) only [BOps_nil, BOps_cons, Cont_eq, Bev, rd, ev, updO, upd, wantD, List.getElem?_cons_succ, List.getElem?_cons_zero, vft, vtt, bin, optK_some, Nat.reduceEqDiff, ↓reduceIte, List.map, ne_eq, not_true_eq_false, Bool.false_eq_true, Nat.zero_add, Nat.add_zero, ld3, fld42_0, fld42_1, l0, l1, c1, c2, c3, c4]
    refine hK _ _ ?_; clear hK K
    refine W_ret ?_; simp only [retQ, Try.results20, resV1, Option.some.injEq, exists_eq_left', upd, ↓reduceIte, List.toList_toArray, true_and, Bool.false_and, Bool.true_and, Bool.and_false]
    exact hE
  first | refine W_regK ?_ | refine W_seq (W_regK ?_)
  intro K hK; simp (maxSteps := 1000000) (disch := omega) only [BOps_nil, BOps_cons, Cont_eq, Bev, rd, ev, updO, upd, wantD, List.getElem?_cons_succ, List.getElem?_cons_zero, vtt, bin, optK_some, Nat.reduceEqDiff, ↓reduceIte, List.map, ne_eq, not_true_eq_false, Nat.zero_add, Nat.add_zero, ld3, u4, fld42_0, fld42_1, l0, l1, c1, c2, c3, c4, u4]
  refine hK _ _ ?_; clear hK K
  refine W_ret ?_; simp only [retQ, Try.results20, resV1, Option.some.injEq, exists_eq_left', upd, ↓reduceIte, List.toList_toArray, true_and, Bool.true_and]
  exact hE
theorem check1_spec (H : Hp) (n k : Int) : CallsV Try.prog 19 [.agg #[iv n, iv k]].toArray H (fun r H' => r = .bool (!mayBindB n k) ∧ Ext H H') := by
  refine calls_W (m := 6) Try.call19 Try.func19 rfl rfl (by decide +kernel) (by simp) ?_
  first | refine W_regK ?_ | refine W_seq (W_regK ?_)
  intro K hK; simp (maxSteps := 1000000) (disch := omega) only [BOps_nil, BOps_cons, Cont_eq, Bev, rd, ev, updO, wantD, argf, optK_some, ↓reduceIte, List.map, List.toList_toArray, Value.cells]
  have hE := (Ext.refl H).push (row 42 [.int .i64 n, .int .i64 k])
  have hb := get_new H (row 42 [.int .i64 n, .int .i64 k])
  generalize hk0 : H.size = k0 at *
  generalize H.push _ = H1 at *
  refine hK _ _ ?_; clear hK K
  have l0 : ldn H1 2 ⟨k0, 0, none⟩ = some [.int .i64 n, .int .i64 k] := by rw [ldn_row hb]; rfl
  first | refine W_regK ?_ | refine W_seq (W_regK ?_)
  intro K hK; simp (maxSteps := 1000000) (disch := omega) only [BOps_cons, Cont_eq, Bev, rd, ev, updO, upd, wantD, optK_some, Nat.reduceEqDiff, ↓reduceIte, List.map, List.map_toArray, List.append_toArray, List.append_nil, List.nil_append, Option.map_some, ld42, l0]
  refine (mayBind_spec H1 n k).mono ?_; rintro r H2 ⟨rfl, hE2⟩
  simp (maxSteps := 1000000) (disch := omega) only [BOps_nil, BOps_cons, Cont_eq, Bev, rd, ev, updO, upd, wantD, optK_some, ↓reduceIte]
  refine hK _ _ ?_; clear hK K
  refine W_ret ?_; simp only [retQ, Try.results19, resV1, Option.some.injEq, exists_eq_left', upd, ↓reduceIte, List.toList_toArray, true_and]
  exact hE.trans hE2
theorem limits1_spec (H : Hp) (c : List Value) (p : Pr) (hc : PrV H c p) (hl : p.rhs.length ≤ 2 ^ 45) : CallsV Try.prog 28 [.agg c.toArray].toArray H (fun r H' => r = .bool (decide ((p.rhs.length : Int) > 12)) ∧ Ext H H') := by
  obtain ⟨rv, rfl, hr⟩ := hc
  obtain ⟨a, cap, rfl⟩ := hr.opn'
  refine calls_W (m := 7) Try.call28 Try.func28 rfl rfl (by decide +kernel) (by simp) ?_
  first | refine W_regK ?_ | refine W_seq (W_regK ?_)
  intro K hK; simp (maxSteps := 1000000) (disch := omega) only [BOps_nil, BOps_cons, Cont_eq, Bev, rd, ev, updO, wantD, argf, optK_some, ↓reduceIte, List.map, List.toList_toArray, Value.cells]
  have hE := (Ext.refl H).push (row 44 [iv p.left, Value.slice a p.rhs.length cap, iv p.ln, iv p.lk])
  have hb := get_new H (row 44 [iv p.left, Value.slice a p.rhs.length cap, iv p.ln, iv p.lk])
  generalize hk0 : H.size = k0 at *
  generalize H.push _ = H1 at *
  refine hK _ _ ?_; clear hK K
  have l0 : ldc H1 ⟨k0, 1, none⟩ = some (.slice a p.rhs.length cap) := ldc_row hb 1
  first | refine W_regK ?_ | refine W_seq (W_regK ?_)
  intro K hK; simp (maxSteps := 1000000) (disch := omega) only [BOps_nil, BOps_cons, Cont_eq, Bev, rd, rdB, ev, updO, upd, wantD, bin, optK_some, lenV, Nat.reduceEqDiff, ↓reduceIte, List.map, ne_eq, not_true_eq_false, Nat.zero_add, u28, ld28, fld44_1, l0]
  refine hK _ _ ?_; clear hK K
  refine W_ret ?_; simp only [retQ, Try.results28, resV1, Option.some.injEq, exists_eq_left', upd, ↓reduceIte, List.toList_toArray, true_and]
  exact hE
theorem bring_spec (H : Hp) (i n : Int) (h1 : -9223372036854775808 ≤ i) (h2 : i ≤ 9223372036854775807) (h3 : n ≤ 9223372036854775807) :
    CallsV Try.prog 9 [iv i, iv n].toArray H (fun r H' => H' = H ∧ ∃ j : Int, r = iv j ∧ (n ≤ 0 → j = 0) ∧ (0 < n → 0 ≤ j ∧ j < n)) := by
  refine calls_W (m := 16) Try.call9 Try.func9 rfl rfl (by decide +kernel) (by simp) ?_
  first | refine W_regK ?_ | refine W_seq (W_regK ?_)
  intro K hK; simp (maxSteps := 1000000) (disch := omega) only [BOps_nil, BOps_cons, Cont_eq, Bev, rd, ev, updO, wantD, optK_some, ↓reduceIte, List.map]
  refine hK _ _ ?_; clear hK K
  by_cases c1 : n ≤ 0
  · have c1' : decide (n ≤ 0) = true := by simpa using c1
    first | refine W_regK ?_ | refine W_seq (W_regK ?_)
    intro K hK; simp (maxSteps := 1000000) (disch := omega) only [BOps_nil, BOps_cons, Cont_eq, Bev, rd, ev, updO, upd, wantD, bin, argf, optK_some, Nat.reduceEqDiff, ↓reduceIte, List.map, ne_eq, not_true_eq_false, c1']
    refine hK _ _ ?_; clear hK K
    first | refine W_seq (W_cond_t (by simp only [ev]) ?_) | refine W_cond_t (by simp only [ev, upd, ↓reduceIte]) ?_
    first | refine W_regK ?_ | refine W_seq (W_regK ?_)
    intro K hK; simp (maxSteps := 1000000) (disch := omega) only [BOps_nil, BOps_cons, Cont_eq, Bev, rd, ev, updO, wantD, optK_some, ↓reduceIte, List.map]
    refine hK _ _ ?_; clear hK K
    refine W_ret ?_; simp only [thenQ, retQ, Try.results9, resV1, Option.some.injEq, exists_eq_left', upd, ↓reduceIte, List.toList_toArray, true_and]
    exact ⟨0, rfl, fun _ => rfl, fun h => by omega⟩
  have c1' : decide (n ≤ 0) = false := by simpa using c1
  have hn0 : n ≠ 0 := by omega
  first | refine W_regK ?_ | refine W_seq (W_regK ?_)
  intro K hK; simp (maxSteps := 1000000) (disch := omega) only [BOps_nil, BOps_cons, Cont_eq, Bev, rd, ev, updO, upd, wantD, bin, argf, optK_some, Nat.reduceEqDiff, ↓reduceIte, List.map, ne_eq, not_true_eq_false, c1']
  refine hK _ _ ?_; clear hK K
  first | refine W_seq (W_cond_f (by simp only [ev]) ?_) | refine W_cond_f (by simp only [ev, upd, ↓reduceIte]) ?_
  refine W_skip ?_; try simp only [thenQ]
  first | refine W_regK ?_ | refine W_seq (W_regK ?_)
  intro K hK; simp (maxSteps := 1000000) (disch := omega) only [BOps_nil, BOps_cons, Cont_eq, Bev, rd, ev, updO, upd, wantD, bin, argf, optK_some, Nat.reduceEqDiff, ↓reduceIte, List.map, ne_eq, not_true_eq_false, reduceCtorEq, hn0]
  refine hK _ _ ?_; clear hK K
  have t1 : -n < i.tmod n := by
    rcases Int.le_total 0 i with h | h
    · have := Int.tmod_nonneg n h; omega
    · have := Int.tmod_nonneg n (show 0 ≤ -i by omega)
      have := Int.tmod_lt_of_pos (-i) (show 0 < n by omega)
      rw [Int.neg_tmod] at *; omega
  have t2 : i.tmod n < n := Int.tmod_lt_of_pos i (by omega)
  by_cases c2 : i.tmod n < 0
  · have c2' : decide (i.tmod n < 0) = true := by simpa using c2
    first | refine W_regK ?_ | refine W_seq (W_regK ?_)
    intro K hK; simp (maxSteps := 1000000) (disch := omega) only [BOps_nil, BOps_cons, Cont_eq, Bev, rd, ev, updO, upd, wantD, bin, optK_some, ↓reduceIte, List.map, ne_eq, not_true_eq_false, c2']
    refine hK _ _ ?_; clear hK K
    first | refine W_seq (W_cond_t (by simp only [ev]) ?_) | refine W_cond_t (by simp only [ev, upd, ↓reduceIte]) ?_
    refine W_reg ?_; simp (maxSteps := 1000000) (disch := omega) only [BOps_nil, BOps_cons, Cont_eq, Bev, rd, ev, updO, upd, wantD, bin, argf, optK_some, Nat.reduceEqDiff, ↓reduceIte, List.map, ne_eq, not_true_eq_false, reduceCtorEq, wrapi]
    simp only [thenQ]
    first | refine W_regK ?_ | refine W_seq (W_regK ?_)
    intro K hK; simp (maxSteps := 1000000) (disch := omega) only [BOps_nil, BOps_cons, Cont_eq, Bev, rd, ev, updO, upd, wantD, optK_some, ↓reduceIte, List.map]
    refine hK _ _ ?_; clear hK K
    refine W_ret ?_; simp only [retQ, Try.results9, resV1, Option.some.injEq, exists_eq_left', upd, ↓reduceIte, List.toList_toArray, true_and]
    exact ⟨_, rfl, fun h => absurd h c1, fun _ => by omega⟩
  · have c2' : decide (i.tmod n < 0) = false := by simpa using c2
    first | refine W_regK ?_ | refine W_seq (W_regK ?_)
    intro K hK; simp (maxSteps := 1000000) (disch := omega) only [BOps_nil, BOps_cons, Cont_eq, Bev, rd, ev, updO, upd, wantD, bin, optK_some, ↓reduceIte, List.map, ne_eq, not_true_eq_false, c2']
    refine hK _ _ ?_; clear hK K
    first | refine W_seq (W_cond_f (by simp only [ev]) ?_) | refine W_cond_f (by simp only [ev, upd, ↓reduceIte]) ?_
    refine W_skip ?_; try simp only [thenQ]
    first | refine W_regK ?_ | refine W_seq (W_regK ?_)
    intro K hK; simp (maxSteps := 1000000) (disch := omega) only [BOps_nil, BOps_cons, Cont_eq, Bev, rd, ev, updO, upd, wantD, optK_some, ↓reduceIte, List.map, reduceCtorEq]
    refine hK _ _ ?_; clear hK K
    refine W_ret ?_; simp only [retQ, Try.results9, resV1, Option.some.injEq, exists_eq_left', upd, ↓reduceIte, List.toList_toArray, true_and]
    exact ⟨_, rfl, fun h => absurd h c1, fun _ => by omega⟩
end Go.Proofs.Yteheedbhmggcgaa
