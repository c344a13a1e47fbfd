import Derived.Test.YteheedbhmggcgaaE8
namespace Go.Proofs.Yteheedbhmggcgaa
open Go Go.Vy Go.Proofs
set_option linter.unusedSimpArgs false
set_option linter.unusedVariables false
/-- The symbol behind an item's dot. -/
def nxt (g : Gm) (x : It) : Option Int := if x.d = (gp g x.p).rhs.length then none else some (gi (gp g x.p).rhs x.d)
structure ItOk (g : Gm) (x : It) : Prop where
  p0 : 0 ≤ x.p
  p1 : x.p < g.prods.length
  d0 : 0 ≤ x.d
  d1 : x.d ≤ (gp g x.p).rhs.length
  f0 : 0 ≤ x.f
  f1 : x.f < 61
/-- The head of a chart's block: a grammar, terms. -/
structure Hd (H0 : Hp) (cs : List Value) (g : Gm) (ks : List Int) : Prop where
  hd : ∃ vt vl vp vn vd vk, cs = [vt, vl, vp, vn, vd, vk] ∧ GV H0 vt vl vp vn vd g ∧ RdI H0 vk ks
  sh : Shape g
  kl : ks.length ≤ 60
  kn : ∀ k ∈ ks, 1 ≤ k ∧ k < g.nt
structure HdO (H0 : Hp) (g : Gm) (ks : List Int) (vt vd vk : Value) (at_ : Option Addr) (ct bp op cap : Nat) (ra : Int → Option Addr) (rb ro rc : Int → Nat) : Prop where
  et : vt = .slice at_ g.nt ct
  ed : vd = .slice (some ⟨bp, op, none⟩) g.prods.length cap
  pr : PrIn H0 g bp op ra rb ro rc
  k : RdI H0 vk ks
theorem Hd.opn {H0 : Hp} {cs : List Value} {g : Gm} {ks : List Int} (h : Hd H0 cs g ks) : ∃ vt vl vp vn vd vk at_ ct bp op cap ra rb ro rc, cs = [vt, vl, vp, vn, vd, vk] ∧ HdO H0 g ks vt vd vk at_ ct bp op cap ra rb ro rc := by
  obtain ⟨vt, vl, vp, vn, vd, vk, rfl, hg, hk⟩ := h.hd
  obtain ⟨bp, op, cap, ra, rb, ro, rc, hvd, hP⟩ := hg.prods h.sh.np1
  obtain ⟨at_, ct, al, cl, ap, cp, an, cn, ad, cd, e1, -⟩ := hg.lens
  exact ⟨vt, vl, vp, vn, vd, vk, at_, ct, bp, op, cap, ra, rb, ro, rc, rfl, e1, hvd, hP, hk⟩
theorem behind_spec (H0 H : Hp) (c : Nat) (cs : List Value) (R : Nat → List It) (mb : Nat → Nat) (B : Nat → Option Nat) (rv : Nat → Value) (g : Gm) (ks : List Int) (h : Ch H0 H c cs R mb B rv) (hd : Hd H0 cs g ks) (x : It) (hx : ItOk g x) :
    CallsV Try.prog 40 [.pointer (some ⟨c, 0, none⟩), .agg #[.int .i64 x.p, .int .i64 x.d, .int .i64 x.f]].toArray H (fun r H' => Ext H H' ∧ r = .tuple #[.int .i64 ((nxt g x).getD 0), .bool (nxt g x).isSome]) := by
  obtain ⟨vt, vl, vp, vn, vd, vk, at_, ct, bp, op, cap, ra, rb, ro, rc, rfl, ho⟩ := hd.opn
  obtain ⟨rfl, rfl, hP, hk⟩ := ho
  have hsh := hd.sh
  have := hsh.np
  have := hx.p0; have := hx.p1; have := hx.d0; have := hx.d1
  have hrl := hsh.rl _ (gp_mem hx.p0 hx.p1)
  refine calls_W (m := 27) Try.call40 Try.func40 rfl rfl (by decide +kernel) (by simp) ?_
  first | refine W_regK ?_ | refine W_seq (W_regK ?_)
  intro K hK; simp (maxSteps := 1000000) (disch := omega) only [BOps_nil, BOps_cons, Cont_eq, Bev, rd, ev, updO, wantD, argf, optK_some, ↓reduceIte, List.map, List.toList_toArray, Value.cells]
  have hE := (Ext.refl H).push (row 68 [.int .i64 x.p, .int .i64 x.d, .int .i64 x.f])
  have hb := get_new H (row 68 [.int .i64 x.p, .int .i64 x.d, .int .i64 x.f])
  have h1 := h.grow hE
  generalize hk0 : H.size = xb at *
  generalize H.push _ = H1 at *
  have hP1 := hP.ext h1.ext
  have l4 : ldc H1 ⟨c, 4, none⟩ = some (.slice (some ⟨bp, op, none⟩) g.prods.length cap) := by rw [h1.head 4 (by omega)]; rfl
  have x0 : ldc H1 ⟨xb, 0, none⟩ = some (.int .i64 x.p) := ldc_row hb 0
  have x1 : ldc H1 ⟨xb, 1, none⟩ = some (.int .i64 x.d) := ldc_row hb 1
  have hr := hP1.right x.p hx.p0 hx.p1
  refine hK _ _ ?_; clear hK K
  first | refine W_drawK mixed (by decide +kernel) ?_ | refine W_seq (W_drawK mixed (by decide +kernel) ?_)
  intro K hK; simp (maxSteps := 1000000) (disch := omega) only [optQ_some, QOps_nil, QOps_cons, QCont_eq, QBev, rq, rd, ev, updO, upd, wantD, argf, Nat.reduceEqDiff, ↓reduceIte, List.map, reduceCtorEq, inI_pos, Nat.zero_add, Nat.add_zero, ld3, ld25, ixk25, fld27_4, ld28, fld44_1, fld66_0, fld68_0, l4, x0, hr]
  refine hK _ ?_; clear hK K
  by_cases c1 : x.d = (gp g x.p).rhs.length
  · have c1' : (x.d == ((gp g x.p).rhs.length : Int)) = true := beq_iff_eq.2 c1
    first | refine W_regK ?_ | refine W_seq (W_regK ?_)
    intro K hK; simp (maxSteps := 1000000) (disch := omega) only [BOps_nil, BOps_cons, Cont_eq, Bev, rd, rdB, ev, updO, upd, wantD, bin, optK_some, lenV, Nat.reduceEqDiff, ↓reduceIte, List.map, ne_eq, not_true_eq_false, Nat.zero_add, ld3, u28, fld68_1, x1, c1']
    refine hK _ _ ?_; clear hK K
    first | refine W_seq (W_cond_t (by simp only [ev]) ?_) | refine W_cond_t (by simp only [ev, upd, ↓reduceIte]) ?_
    first | refine W_regK ?_ | refine W_seq (W_regK ?_)
    intro K hK; simp (maxSteps := 1000000) (disch := omega) only [BOps_nil, BOps_cons, Cont_eq, Bev, rd, ev, updO, wantD, optK_some, ↓reduceIte, List.map]
    refine hK _ _ ?_; clear hK K
    refine W_ret ?_; simp only [thenQ, retQ, Try.results40, resV2, Option.some.injEq, exists_eq_left', upd, Nat.reduceEqDiff, ↓reduceIte, List.toList_toArray]
    exact ⟨hE, by simp [nxt, c1]⟩
  · have c1' : (x.d == ((gp g x.p).rhs.length : Int)) = false := beq_eq_false_iff_ne.2 c1
    have hat := hP1.at_ x.p hx.p0 hx.p1 (by omega)
    have hsy := hP1.sym x.p x.d hx.p0 hx.p1 hx.d0 (by omega)
    first | refine W_regK ?_ | refine W_seq (W_regK ?_)
    intro K hK; simp (maxSteps := 1000000) (disch := omega) only [BOps_nil, BOps_cons, Cont_eq, Bev, rd, rdB, ev, updO, upd, wantD, bin, optK_some, lenV, Nat.reduceEqDiff, ↓reduceIte, List.map, ne_eq, not_true_eq_false, Nat.zero_add, ld3, u28, fld68_1, x1, c1']
    refine hK _ _ ?_; clear hK K
    first | refine W_seq (W_cond_f (by simp only [ev]) ?_) | refine W_cond_f (by simp only [ev, upd, ↓reduceIte]) ?_
    refine W_skip ?_; try simp only [thenQ]
    first | refine W_regK ?_ | refine W_seq (W_regK ?_)
    intro K hK; simp (maxSteps := 1000000) (disch := omega) only [BOps_nil, BOps_cons, Cont_eq, Bev, rd, ev, updO, upd, wantD, optK_some, Nat.reduceEqDiff, ↓reduceIte, List.map, inI_pos, Nat.zero_add, ld3, ixk28, fld68_1, x1, hat, hsy]
    refine hK _ _ ?_; clear hK K
    refine W_ret ?_; simp only [retQ, Try.results40, resV2, Option.some.injEq, exists_eq_left', upd, Nat.reduceEqDiff, ↓reduceIte, List.toList_toArray]
    exact ⟨hE, by simp [nxt, c1]⟩
theorem flat_get : ∀ (l : List It) (i : Nat) (hi : i < l.length) (sp : List Value), ((l.flatMap It.cells ++ sp).drop (i * 3)).take 3 = (l[i]).cells
  | [], i, hi, sp => by simp at hi
  | x :: l, 0, hi, sp => by simp [It.cells]
  | x :: l, i + 1, hi, sp => by
    have := flat_get l i (by simpa using hi) sp
    rw [List.flatMap_cons, show (i + 1) * 3 = 3 + i * 3 by omega, List.append_assoc, ← List.drop_drop]
    have e : (x.cells ++ (l.flatMap It.cells ++ sp)).drop 3 = l.flatMap It.cells ++ sp := by simp [It.cells]
    rw [e]; simpa using this
theorem flat_len (l : List It) : (l.flatMap It.cells).length = l.length * 3 := by
  induction l with
  | nil => rfl
  | cons x l ih => simp [ih, It.cells]; omega
theorem own_rde {H : Hp} {v : Value} {l : List It} {B : Option Nat} (h : Own H v 68 3 l.length (l.flatMap It.cells) B) : Rde H v 3 (l.map It.cells) := by
  obtain ⟨h1, ⟨rfl, rfl, h2⟩ | ⟨k, cap, sp, rfl, rfl, h4, h5, h6⟩⟩ := h
  · have : l = [] := List.eq_nil_of_length_eq_zero h2
    subst this; exact Rde.nil H 3
  · refine ⟨some ⟨k, 0, none⟩, cap, by simp, by simpa using h4, fun i hi => ⟨k, 0, rfl, ?_⟩⟩
    have hi' : i < l.length := by simpa using hi
    rw [ldn_row h5, if_pos (by rw [List.length_append, flat_len]; omega), Nat.zero_add, flat_get l i hi' sp]
    simp
theorem clone_spec (H : Hp) (v : Value) (l : List It) (B : Option Nat) (h : Own H v 68 3 l.length (l.flatMap It.cells) B) (hl : l.length ≤ 2 ^ 20) :
    CallsV Try.prog 41 [v].toArray H (fun r H' => Ext H H' ∧ ∃ Bc, Own H' r 68 3 l.length (l.flatMap It.cells) Bc ∧ ∀ b, Bc = some b → H.size ≤ b) := by
  have h' := h
  obtain ⟨h1, ⟨rfl, rfl, h2⟩ | ⟨k, cap, sp, rfl, rfl, h4, h5, h6⟩⟩ := h
  · have : l = [] := List.eq_nil_of_length_eq_zero h2
    subst this
    refine calls_W (m := 8) Try.call41 Try.func41 rfl rfl (by decide +kernel) (by simp) ?_
    first | refine W_regK ?_ | refine W_seq (W_regK ?_)
    intro K hK; simp (maxSteps := 1000000) (disch := omega) only [BOps_nil, BOps_cons, Cont_eq, Bev, rd, ev, updO, wantD, optK_some, ↓reduceIte, List.map]
    refine hK _ _ ?_; clear hK K
    first | refine W_regK ?_ | refine W_seq (W_regK ?_)
    intro K hK; simp (maxSteps := 1000000) (disch := omega) only [BOps_nil, BOps_cons, Cont_eq, Bev, rd, ev, updO, upd, wantD, bin, argf, optK_some, ↓reduceIte, List.map, reduceCtorEq, u62, Option.isNone_none]
    refine hK _ _ ?_; clear hK K
    first | refine W_seq (W_cond_t (by simp only [ev]) ?_) | refine W_cond_t (by simp only [ev, upd, ↓reduceIte]) ?_
    first | refine W_regK ?_ | refine W_seq (W_regK ?_)
    intro K hK; simp (maxSteps := 1000000) (disch := omega) only [BOps_nil, BOps_cons, Cont_eq, Bev, rd, ev, updO, wantD, optK_some, ↓reduceIte, List.map]
    refine hK _ _ ?_; clear hK K
    refine W_ret ?_; simp only [thenQ, retQ, Try.results41, resV1, Option.some.injEq, exists_eq_left', upd, ↓reduceIte, List.toList_toArray, List.length_nil]
    exact ⟨.refl _, none, Own.nil H 68 3, by simp⟩
  · refine calls_W (m := 8) Try.call41 Try.func41 rfl rfl (by decide +kernel) (by simp) ?_
    first | refine W_regK ?_ | refine W_seq (W_regK ?_)
    intro K hK; simp (maxSteps := 1000000) (disch := omega) only [BOps_nil, BOps_cons, Cont_eq, Bev, rd, ev, updO, wantD, optK_some, ↓reduceIte, List.map]
    refine hK _ _ ?_; clear hK K
    first | refine W_regK ?_ | refine W_seq (W_regK ?_)
    intro K hK; simp (maxSteps := 1000000) (disch := omega) only [BOps_nil, BOps_cons, Cont_eq, Bev, rd, ev, updO, upd, wantD, bin, argf, optK_some, ↓reduceIte, List.map, reduceCtorEq, u62]
    refine hK _ _ ?_; clear hK K
    first | refine W_seq (W_cond_f (by simp only [ev]) ?_) | refine W_cond_f (by simp only [ev, upd, ↓reduceIte]) ?_
    refine W_skip ?_; try simp only [thenQ]
    first | refine W_regK ?_ | refine W_seq (W_regK ?_)
    intro K hK; simp (maxSteps := 1000000) (disch := omega) only [BOps_cons, Cont_eq, Bev, rd, ev, updO, upd, wantD, argf, optK_some, Nat.reduceEqDiff, ↓reduceIte, List.map, reduceCtorEq, true_and, u62, slT62, bslK]
    have hs : Own (H.push (row 68 [])) (.slice (some ⟨H.size, 0, none⟩) 0 0) 68 3 0 [] (some H.size) := ⟨rfl, .inr ⟨H.size, 0, [], rfl, rfl, Nat.le_refl _, by simp, rfl⟩⟩
    have hc := cells_own (h'.push (row 68 []))
    refine appK_own slT62 hs hc (flat_len l) ?_ hz68 rfl ?_ ?_ ?_
    · intro y hy
      obtain ⟨x, hx, hy⟩ := List.mem_flatMap.1 hy
      simp [It.cells] at hy
      rcases hy with rfl | rfl | rfl <;> rfl
    · omega
    · omega
    intro v' H' B' ho hf hB
    simp (maxSteps := 1000000) (disch := omega) only [BOps_nil, BOps_cons, Cont_eq, Bev, rd, ev, updO, upd, wantD, optK_some, ↓reduceIte]
    refine hK _ _ ?_; clear hK K
    refine W_ret ?_; simp only [retQ, Try.results41, resV1, Option.some.injEq, exists_eq_left', upd, ↓reduceIte, List.toList_toArray]
    rw [Nat.zero_add, List.nil_append] at ho
    refine ⟨(Ext.frm ((Ext.refl H).push _) hf ?_), B', ho, ?_⟩
    · intro b hb; injection hb with hb; omega
    · intro b hb
      rcases hB with rfl | rfl
      · injection hb with hb; omega
      · injection hb with hb; simp at hb; omega
end Go.Proofs.Yteheedbhmggcgaa
