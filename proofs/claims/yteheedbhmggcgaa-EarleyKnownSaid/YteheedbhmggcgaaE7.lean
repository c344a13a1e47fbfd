import Derived.Test.YteheedbhmggcgaaE6
namespace Go.Proofs.Yteheedbhmggcgaa
open Go Go.Vy Go.Proofs
set_option linter.unusedSimpArgs false
set_option linter.unusedVariables false
/-- May terms be, of a grammar that may be? -/
def KOk (g : Gm) (ks : List Int) : Prop := ks.length ≤ 60 ∧ ∀ k ∈ ks, 1 ≤ k ∧ k < g.nt
def EChk (g : Gm) (ks : List Int) (e : Int) : Prop :=
  (¬ GOk g ∧ Chk g e) ∨ (GOk g ∧ ks.length > 60 ∧ e = 5) ∨ (GOk g ∧ ks.length ≤ 60 ∧ ¬ KOk g ks ∧ e = 2) ∨ (GOk g ∧ KOk g ks ∧ e = 0)
theorem Chk.zero {g : Gm} {e : Int} (h : Chk g e) : e = 0 ↔ GOk g := by
  rcases h with ⟨h1, rfl⟩ | ⟨h1, h2, rfl⟩ | ⟨h1, h2, rfl⟩
  · exact ⟨fun h => by omega, fun h => absurd h1 h.short⟩
  · exact ⟨fun _ => h2, fun _ => rfl⟩
  · exact ⟨fun h => by omega, fun h => absurd h h2⟩
theorem EChk.zero {g : Gm} {ks : List Int} {e : Int} (h : EChk g ks e) : e = 0 ↔ GOk g ∧ KOk g ks := by
  rcases h with ⟨h1, h2⟩ | ⟨h1, h2, rfl⟩ | ⟨h1, h2, h3, rfl⟩ | ⟨h1, h2, rfl⟩
  · exact ⟨fun h => absurd (h2.zero.1 h) h1, fun h => absurd h.1 h1⟩
  · exact ⟨fun h => by omega, fun h => by have := h.2.1; omega⟩
  · exact ⟨fun h => by omega, fun h => absurd h.2 h3⟩
  · exact ⟨fun _ => ⟨h1, h2⟩, fun _ => rfl⟩
theorem echeck1_spec (H : Hp) (k0 : Nat) (nt : Nat) (a : Option Addr) (c : Nat) (s : Int) (hl : ldc H ⟨k0, 0, none⟩ = some (.slice a nt c)) :
    CallsV Try.prog 36 ([].toArray ++ [.int .i64 s].toArray ++ [.pointer (some ⟨k0, 0, none⟩)].toArray) H (fun r H' => r = .bool (decide (s < 1) || decide (s ≥ nt)) ∧ H' = H) := by
  simp only [List.append_toArray, List.nil_append, List.cons_append]
  refine calls_W (m := 13) Try.call36 Try.func36 rfl rfl (by decide +kernel) (by simp) ?_
  first | refine W_regK ?_ | refine W_seq (W_regK ?_)
  intro K hK; simp (maxSteps := 1000000) (disch := omega) only [BOps_nil, BOps_cons, Cont_eq, Bev, rd, ev, updO, wantD, optK_some, ↓reduceIte, List.map]
  refine hK _ _ ?_; clear hK K
  cases c1 : decide (s < 1)
  · first | refine W_regK ?_ | refine W_seq (W_regK ?_)
    intro K hK; simp (maxSteps := 1000000) (disch := omega) only [BOps_nil, BOps_cons, Cont_eq, Bev, rd, rdB, ev, updO, upd, wantD, List.getElem?_cons_succ, List.getElem?_cons_zero, vff, bin, argf, optK_some, lenV, Nat.reduceEqDiff, ↓reduceIte, List.map, ne_eq, not_true_eq_false, reduceCtorEq, Bool.false_eq_true, Nat.add_zero, u22, ld22, fld27_0, hl, c1]
    refine hK _ _ ?_; clear hK K
    refine W_ret ?_; simp only [retQ, Try.results36, resV1, Option.some.injEq, exists_eq_left', upd, ↓reduceIte, List.toList_toArray, and_true, Bool.false_or]
  · first | refine W_regK ?_ | refine W_seq (W_regK ?_)
    intro K hK; simp (maxSteps := 1000000) (disch := omega) only [BOps_nil, BOps_cons, Cont_eq, Bev, rd, ev, updO, upd, wantD, List.getElem?_cons_succ, List.getElem?_cons_zero, vtf, bin, argf, optK_some, Nat.reduceEqDiff, ↓reduceIte, List.map, ne_eq, not_true_eq_false, reduceCtorEq, Bool.false_eq_true, c1]
    refine hK _ _ ?_; clear hK K
    refine W_ret ?_; simp only [retQ, Try.results36, resV1, Option.some.injEq, exists_eq_left', upd, ↓reduceIte, List.toList_toArray, and_true, Bool.true_or]
theorem echeck_spec (H : Hp) (vt vl vp vn vd vk : Value) (g : Gm) (ks : List Int) (hg : GV H vt vl vp vn vd g) (hk : RdI H vk ks) (hkl : ks.length ≤ 2 ^ 45) :
    CallsV Try.prog 25 [.agg #[vt, vl, vp, vn, vd], vk].toArray H (fun r H' => Ext H H' ∧ ∃ e : Int, r = .int .i64 e ∧ EChk g ks e) := by
  obtain ⟨at_, ct, al, cl, ap, cp, an, cn, ad, cd, rfl, rfl, rfl, rfl, rfl⟩ := hg.lens
  refine calls_W (m := 19) Try.call25 Try.func25 rfl rfl (by decide +kernel) (by simp) ?_
  first | refine W_regK ?_ | refine W_seq (W_regK ?_)
  intro K hK; simp (maxSteps := 1000000) (disch := omega) only [BOps_nil, BOps_cons, Cont_eq, Bev, rd, ev, updO, wantD, argf, optK_some, ↓reduceIte, List.map, List.toList_toArray, Value.cells]
  generalize hcs : [Value.slice at_ g.nt ct, Value.slice al g.lev.length cl, Value.slice ap g.pats.length cp, Value.slice an g.nn cn, Value.slice ad g.prods.length cd] = cs
  have hE := (Ext.refl H).push (row 27 cs)
  have hb := get_new H (row 27 cs)
  have hg1 := hg.ext hE
  have hk1 := RdI.ext hE hk
  generalize hk0 : H.size = k0 at *
  generalize H.push _ = H1 at *
  refine hK _ _ ?_; clear hK K
  have l0 : ldn H1 5 ⟨k0, 0, none⟩ = some cs := by rw [ldn_row hb, ← hcs]; rfl
  first | refine W_regK ?_ | refine W_seq (W_regK ?_)
  intro K hK; simp (maxSteps := 1000000) (disch := omega) only [BOps_cons, Cont_eq, Bev, rd, ev, updO, upd, wantD, optK_some, Nat.reduceEqDiff, ↓reduceIte, List.map, List.map_toArray, List.append_toArray, List.append_nil, List.nil_append, Option.map_some, ld27, l0]
  rw [← hcs]
  refine (check_spec H1 _ _ _ _ _ g hg1).mono ?_; rintro r H2 ⟨hE2, e, rfl, hC⟩
  have hk2 := RdI.ext hE2 hk1
  have hb2 := hE2.get hb
  simp (maxSteps := 1000000) (disch := omega) only [BOps_nil, BOps_cons, Cont_eq, Bev, rd, ev, updO, upd, wantD, optK_some, ↓reduceIte]
  refine hK _ _ ?_; clear hK K
  have hE := hE.trans hE2
  by_cases c1 : e = 0
  rotate_left
  · have c1' : (e != 0) = true := bne_iff_ne.2 c1
    first | refine W_regK ?_ | refine W_seq (W_regK ?_)
    intro K hK; simp (maxSteps := 1000000) (disch := omega) only [BOps_nil, BOps_cons, Cont_eq, Bev, rd, ev, updO, upd, wantD, bin, optK_some, ↓reduceIte, List.map, ne_eq, not_true_eq_false, c1']
    refine hK _ _ ?_; clear hK K
    first | refine W_seq (W_cond_t (by simp only [ev]) ?_) | refine W_cond_t (by simp only [ev, upd, ↓reduceIte]) ?_
    first | refine W_regK ?_ | refine W_seq (W_regK ?_)
    intro K hK; simp (maxSteps := 1000000) (disch := omega) only [BOps_nil, BOps_cons, Cont_eq, Bev, rd, ev, updO, upd, wantD, optK_some, Nat.reduceEqDiff, ↓reduceIte, List.map]
    refine hK _ _ ?_; clear hK K
    refine W_ret ?_; simp only [thenQ, retQ, Try.results25, resV1, Option.some.injEq, exists_eq_left', upd, ↓reduceIte, List.toList_toArray]
    exact ⟨hE, e, rfl, .inl ⟨fun h => c1 (hC.zero.2 h), hC⟩⟩
  have c1' : (e != 0) = false := bne_eq_false_iff_eq.2 c1
  have hok := hC.zero.1 c1
  first | refine W_regK ?_ | refine W_seq (W_regK ?_)
  intro K hK; simp (maxSteps := 1000000) (disch := omega) only [BOps_nil, BOps_cons, Cont_eq, Bev, rd, ev, updO, upd, wantD, bin, optK_some, ↓reduceIte, List.map, ne_eq, not_true_eq_false, c1']
  refine hK _ _ ?_; clear hK K
  first | refine W_seq (W_cond_f (by simp only [ev]) ?_) | refine W_cond_f (by simp only [ev, upd, ↓reduceIte]) ?_
  refine W_skip ?_; try simp only [thenQ]
  first | refine W_seq (W_block ?_) | refine W_block ?_
  obtain ⟨ak, ck, rfl⟩ := hk2.opn'
  by_cases c2 : (ks.length : Int) > 60
  · have c2' : decide ((ks.length : Int) > 60) = true := by simpa using c2
    first | refine W_regK ?_ | refine W_seq (W_regK ?_)
    intro K hK; simp (maxSteps := 1000000) (disch := omega) only [BOps_nil, BOps_cons, Cont_eq, Bev, rd, rdB, ev, updO, upd, wantD, bin, argf, optK_some, lenV, Nat.reduceEqDiff, ↓reduceIte, List.map, ne_eq, not_true_eq_false, u28, c2']
    refine hK _ _ ?_; clear hK K
    first | refine W_seq (W_cond_t (by simp only [ev]) ?_) | refine W_cond_t (by simp only [ev, upd, ↓reduceIte]) ?_
    first | refine W_regK ?_ | refine W_seq (W_regK ?_)
    intro K hK; simp (maxSteps := 1000000) (disch := omega) only [BOps_nil, BOps_cons, Cont_eq, Bev, rd, ev, updO, wantD, optK_some, ↓reduceIte, List.map]
    refine hK _ _ ?_; clear hK K
    refine W_ret ?_; simp only [thenQ, blockQ, retQ, Try.results25, resV1, Option.some.injEq, exists_eq_left', upd, ↓reduceIte, List.toList_toArray]
    exact ⟨hE, 5, rfl, .inr (.inl ⟨hok, by omega, rfl⟩)⟩
  have c2' : decide ((ks.length : Int) > 60) = false := by simpa using c2
  first | refine W_regK ?_ | refine W_seq (W_regK ?_)
  intro K hK; simp (maxSteps := 1000000) (disch := omega) only [BOps_nil, BOps_cons, Cont_eq, Bev, rd, rdB, ev, updO, upd, wantD, bin, argf, optK_some, lenV, Nat.reduceEqDiff, ↓reduceIte, List.map, ne_eq, not_true_eq_false, u28, c2']
  refine hK _ _ ?_; clear hK K
  first | refine W_seq (W_cond_f (by simp only [ev]) ?_) | refine W_cond_f (by simp only [ev, upd, ↓reduceIte]) ?_
  first | refine W_regK ?_ | refine W_seq (W_regK ?_)
  intro K hK; simp (maxSteps := 1000000) (disch := omega) only [BOps_cons, Cont_eq, Bev, rd, ev, updO, upd, wantD, argf, optK_some, Nat.reduceEqDiff, ↓reduceIte, List.map, List.map_toArray, List.append_toArray, List.append_nil, List.nil_append]
  refine (contains_int H2 _ _ 36 _ _ (fun i => decide (gi ks i < 1) || decide (gi ks i ≥ g.nt)) hk2 (by simp; omega) ?_).mono ?_
  · intro H' hE' i hi
    have hi' : i < ks.length := by simpa using hi
    have e : (List.map iv ks)[i]'hi = iv (gi ks i) := by rw [List.getElem_map, gi_nat _ _ hi']
    rw [e]
    refine (echeck1_spec H' k0 g.nt at_ ct (gi ks i) (by rw [ldc_row (hE'.get hb2), ← hcs]; rfl)).mono ?_
    rintro r H4 ⟨rfl, rfl⟩; exact ⟨rfl, .refl _⟩
  rintro r H3 ⟨hE3, b, rfl, hbb⟩
  have hE := hE.trans hE3
  have hiff : b = true ↔ ¬ ∀ k ∈ ks, 1 ≤ k ∧ k < (g.nt : Int) := by
    rw [hbb]
    constructor
    · rintro ⟨i, hi, hp⟩ h
      have hi' : i < ks.length := by simpa using hi
      have := h _ (List.getElem_mem hi')
      rw [gi_nat _ _ hi'] at hp
      simp at hp; omega
    · intro h
      refine Classical.byContradiction fun hn => h fun k hk => ?_
      obtain ⟨i, hi, rfl⟩ := List.getElem_of_mem hk
      refine Classical.byContradiction fun hx => hn ⟨i, by simpa using hi, ?_⟩
      rw [gi_nat _ _ hi]
      simp; omega
  simp (maxSteps := 1000000) (disch := omega) only [BOps_nil, BOps_cons, Cont_eq, Bev, rd, ev, updO, upd, wantD, optK_some, ↓reduceIte]
  refine hK _ _ ?_; clear hK K
  first | refine W_if (t := _) (by simp only [ev]; rfl) ?_ ?_ | refine W_cond (t := _) (by simp only [ev, upd, ↓reduceIte]; rfl) ?_ ?_
  · intro h
    first | refine W_regK ?_ | refine W_seq (W_regK ?_)
    intro K hK; simp (maxSteps := 1000000) (disch := omega) only [BOps_nil, BOps_cons, Cont_eq, Bev, rd, ev, updO, wantD, optK_some, ↓reduceIte, List.map]
    refine hK _ _ ?_; clear hK K
    refine W_ret ?_; simp only [thenQ, blockQ, retQ, Try.results25, resV1, Option.some.injEq, exists_eq_left', upd, ↓reduceIte, List.toList_toArray]
    exact ⟨hE, 2, rfl, .inr (.inr (.inl ⟨hok, by omega, fun hk => hiff.1 h hk.2, rfl⟩))⟩
  · intro h
    refine W_skip ?_; try simp only [thenQ, blockQ]
    first | refine W_regK ?_ | refine W_seq (W_regK ?_)
    intro K hK; simp (maxSteps := 1000000) (disch := omega) only [BOps_nil, BOps_cons, Cont_eq, Bev, rd, ev, updO, wantD, optK_some, ↓reduceIte, List.map]
    refine hK _ _ ?_; clear hK K
    refine W_ret ?_; simp only [retQ, Try.results25, resV1, Option.some.injEq, exists_eq_left', upd, ↓reduceIte, List.toList_toArray]
    refine ⟨hE, 0, rfl, .inr (.inr (.inr ⟨hok, ⟨by omega, ?_⟩, rfl⟩))⟩
    exact Classical.byContradiction fun hn => by have := hiff.2 hn; rw [h] at this; simp at this
end Go.Proofs.Yteheedbhmggcgaa
