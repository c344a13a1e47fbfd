import Derived.Test.YteheedbhmggcgaaEP
namespace Go.Proofs.Yteheedbhmggcgaa
open Go Go.Vy Go.Proofs
set_option linter.unusedSimpArgs false
set_option linter.unusedVariables false
open Classical in
noncomputable def derB (g : Gm) (ks : List Int) : Bool := decide (Cht g ks ks.length ⟨0, 1, 0⟩)
open Classical in
noncomputable def viaB (g : Gm) (ks : List Int) : Bool := decide (∃ x, Cht g ks ks.length x)
theorem derB_iff (g : Gm) (ks : List Int) : derB g ks = true ↔ Cht g ks ks.length ⟨0, 1, 0⟩ := by unfold derB; simp
theorem viaB_iff (g : Gm) (ks : List Int) : viaB g ks = true ↔ ∃ x, Cht g ks ks.length x := by unfold viaB; simp
section
variable {H : Hp} {vt vl vp vn vd vk : Value} {g : Gm} {ks : List Int} (hg : GV H vt vl vp vn vd g) (hk : RdI H vk ks) (ho : GOk g) (hko : KOk g ks)
include hg hk ho hko
theorem derives_ok : CallsV Try.prog 10 [.agg #[vt, vl, vp, vn, vd], vk].toArray H (fun r H' => Ext H H' ∧ r = .tuple #[.bool (derB g ks), .int .i64 0]) := by
  refine (derives_spec H _ _ _ _ _ vk g ks hg hk (by have := hko.1; omega)).mono ?_
  rintro r H' ⟨h1, b, e, rfl, hC, h2, -⟩
  obtain rfl := hC.zero.2 ⟨ho, hko⟩
  have : b = derB g ks := by
    have h3 := h2 rfl
    rw [← derB_iff] at h3
    cases b <;> cases hd : derB g ks <;> simp_all
  rw [this]; exact ⟨h1, rfl⟩
theorem viable_ok : CallsV Try.prog 11 [.agg #[vt, vl, vp, vn, vd], vk].toArray H (fun r H' => Ext H H' ∧ r = .tuple #[.bool (viaB g ks), .int .i64 0]) := by
  refine (viable_spec H _ _ _ _ _ vk g ks hg hk (by have := hko.1; omega)).mono ?_
  rintro r H' ⟨h1, b, e, rfl, hC, h2, -⟩
  obtain rfl := hC.zero.2 ⟨ho, hko⟩
  have : b = viaB g ks := by
    have h3 := h2 rfl
    rw [← viaB_iff] at h3
    cases b <;> cases hd : viaB g ks <;> simp_all
  rw [this]; exact ⟨h1, rfl⟩
theorem counts_ok : CallsV Try.prog 12 [.agg #[vt, vl, vp, vn, vd], vk].toArray H (fun r H' => Ext H H' ∧ ∃ W, Lst g ks W ∧ r = .tuple #[.int .i64 (W ⟨0, 0, ks.length⟩), .int .i64 0]) := by
  refine (counts_spec H _ _ _ _ _ vk g ks hg hk (by have := hko.1; omega)).mono ?_
  rintro r H' ⟨h1, n, e, rfl, hC, h2, -⟩
  obtain rfl := hC.zero.2 ⟨ho, hko⟩
  obtain ⟨W, a, b, c, d⟩ := h2 rfl
  rw [d]; exact ⟨h1, W, ⟨a, b, c⟩, rfl⟩
end
theorem slc_hi {t e : TypeId} {s : Nat} (hu : Try.prog.underlying t = some (.slice e)) (hi : ixk Try.prog t = some (none, s)) (a : Option Addr) (n c k : Nat) (h : k ≤ c) : slc Try.prog t (.slice a n c) none (some (.int .i64 k)) none = some (.slice a k c) := by
  have e : a.map (fun x => x.add 0) = a := by cases a <;> simp [Addr.add]
  unfold slc bnd toN
  simp only [hu, hi, Int.toNat_natCast]
  rw [if_pos (by omega)]
  simp [h, e]
theorem rd_take {H : Hp} {a : Option Addr} {n c k : Nat} {xs : List Value} (h : Rd H (.slice a n c) xs) (hk : k ≤ xs.length) : Rd H (.slice a k c) (xs.take k) := by
  obtain ⟨a', cap, e, hc, hh⟩ := h
  injection e with e1 e2 e3
  subst e1; subst e3
  refine ⟨a, c, by simp; omega, by simp; omega, fun i hi => ?_⟩
  have hi' : i < k ∧ i < xs.length := by simp at hi; omega
  obtain ⟨b, o, h1, h2⟩ := hh i hi'.2
  exact ⟨b, o, h1, by rw [h2, List.getElem?_take, if_pos hi'.1]⟩
theorem rdI_take {H : Hp} {a : Option Addr} {n c k : Nat} {xs : List Int} (h : RdI H (.slice a n c) xs) (hk : k ≤ xs.length) : RdI H (.slice a k c) (xs.take k) := by
  have := rd_take h (k := k) (by simpa using hk)
  rw [← List.map_take] at this
  exact this
theorem rdI_cap {H : Hp} {a : Option Addr} {n c : Nat} {xs : List Int} (h : RdI H (.slice a n c) xs) : n = xs.length ∧ xs.length ≤ c := by
  obtain ⟨a', cap, e, hc, hh⟩ := h
  injection e with e1 e2 e3
  subst e3
  simp at e2 hc
  exact ⟨e2, hc⟩
def PhiV (cs : List Value) (kv : Value) (k : Nat) (kv' : Value) (b : Bool) : Fact
  | 0, v, _, _, _ => v = .agg cs.toArray
  | 1, v, _, _, _ => v = kv
  | 2, v, _, _, _ => v = .int .i64 k
  | 3, v, _, _, _ => v = kv'
  | 4, v, _, _, _ | 5, v, _, _, _ => v = .tuple #[.bool b, .int .i64 0]
  | 6, v, _, _, _ | 8, v, _, _, _ => v = .bool b
  | 7, v, _, _, _ => v = .int .i64 0
  | _, _, _, _, _ => True
theorem begins_spec (H : Hp) (vt vl vp vn vd v : Value) (g : Gm) (l : List Int) (many : Int) (hg : GV H vt vl vp vn vd g) (hv : RdI H v l) (hl : l.length ≤ 2 ^ 45) (hb : ∀ k ∈ l, -9223372036854775808 ≤ k ∧ k ≤ 9223372036854775807) (hm : -9223372036854775808 ≤ many ∧ many ≤ 9223372036854775807) :
    CallsV Try.prog 3 [.agg #[vt, vl, vp, vn, vd], v, .int .i64 many].toArray H (fun r H' => r = .bool true ∧ Ext H H') := by
  have hgx := hg
  obtain ⟨at_, ct, al, cl, ap, cp, an, cn, ad, cd, rfl, rfl, rfl, rfl, rfl⟩ := hgx.lens
  have hpl := hg.fits.d
  refine calls_W (m := 118) Try.call3 Try.func3 rfl rfl (by decide +kernel) (by simp) ?_
  first | refine W_regK ?_ | refine W_seq (W_regK ?_)
  intro K hK; simp (maxSteps := 1000000) (disch := omega) only [BOps_nil, BOps_cons, Cont_eq, Bev, rd, ev, updO, wantD, argf, optK_some, ↓reduceIte, List.map, List.toList_toArray, Value.cells]
  generalize hcs : [Value.slice at_ g.nt ct, Value.slice al g.lev.length cl, Value.slice ap g.pats.length cp, Value.slice an g.nn cn, Value.slice ad g.prods.length cd] = cs
  have hE1 := (Ext.refl H).push (row 27 cs)
  have hb1 := get_new H (row 27 cs)
  generalize hk0 : H.size = b at hb1 ⊢
  generalize H.push (row 27 cs) = H1 at *
  refine hK _ _ ?_; clear hK K
  first | refine W_regK ?_ | refine W_seq (W_regK ?_)
  intro K hK; simp (maxSteps := 1000000) (disch := omega) only [BOps_cons, Bev, ev, wantD, ↓reduceIte, List.map, List.map_toArray, List.append_toArray, List.append_nil]
  refine (works_spec H1).mono ?_
  rintro r H2 ⟨rfl, f1⟩
  try simp (maxSteps := 1000000) (disch := omega) only [BOps_nil, BOps_cons, Cont_eq, Bev, rd, ev, updO, upd, wantD, Bool.not_true, optK_some, ↓reduceIte]
  have hE2 := hE1.trans f1
  have hb2 := f1.get hb1
  have hg2 := hg.ext hE2
  refine hK _ _ ?_; clear hK K
  first | refine W_seq (W_cond_f (by simp only [ev]) ?_) | refine W_cond_f (by simp only [ev, upd, ↓reduceIte]) ?_
  refine W_skip ?_; try simp only [thenQ]
  have ag : Value.agg cs.toArray = .agg #[Value.slice at_ g.nt ct, Value.slice al g.lev.length cl, Value.slice ap g.pats.length cp, Value.slice an g.nn cn, Value.slice ad g.prods.length cd] := by rw [← hcs]
  have rd5 : ∀ H' : Hp, H'[b]? = some (row 27 cs) → ldn H' 5 ⟨b, 0, none⟩ = some cs := by
    intro H' h; rw [ldn_row h, ← hcs]; rfl
  have rd4 : ∀ H' : Hp, H'[b]? = some (row 27 cs) → ldc H' ⟨b, 4, none⟩ = some (Value.slice ad g.prods.length cd) := by
    intro H' h; rw [ldc_row h, ← hcs]; rfl
  have l0 := rd5 H2 hb2
  first | refine W_regK ?_ | refine W_seq (W_regK ?_)
  intro K hK; simp (maxSteps := 1000000) (disch := omega) only [BOps_cons, Cont_eq, Bev, rd, ev, updO, upd, wantD, optK_some, Nat.reduceEqDiff, ↓reduceIte, List.map, List.map_toArray, List.append_toArray, List.append_nil, List.nil_append, Option.map_some, ld27, l0, ag]
  refine (check_spec H2 _ _ _ _ _ g hg2).mono ?_
  rintro r H3 ⟨f2, e, rfl, hC⟩
  have hE3 := hE2.trans f2
  have hb3 := f2.get hb2
  have hg3 := hg.ext hE3
  by_cases c1 : e = 0
  rotate_left
  · have c1' : (e != 0) = true := bne_iff_ne.2 c1
    try simp (maxSteps := 1000000) (disch := omega) only [BOps_nil, BOps_cons, Cont_eq, Bev, rd, ev, updO, upd, wantD, List.getElem?_cons_succ, List.getElem?_cons_zero, vtf, bin, optK_some, Nat.reduceEqDiff, ↓reduceIte, ne_eq, not_true_eq_false, Bool.false_eq_true, c1']
    refine hK _ _ ?_; clear hK K
    first | refine W_seq (W_cond_t (by simp only [ev]) ?_) | refine W_cond_t (by simp only [ev, upd, ↓reduceIte]) ?_
    first | refine W_regK ?_ | refine W_seq (W_regK ?_)
    intro K hK; simp (maxSteps := 1000000) (disch := omega) only [BOps_nil, BOps_cons, Cont_eq, Bev, rd, ev, updO, wantD, optK_some, ↓reduceIte, List.map]
    refine hK _ _ ?_; clear hK K
    refine W_ret ?_; simp only [thenQ, retQ, Try.results3, resV1, Option.some.injEq, exists_eq_left', upd, ↓reduceIte, List.toList_toArray, true_and]
    exact hE3
  have c1' : (e != 0) = false := bne_eq_false_iff_eq.2 c1
  have hok := hC.zero.1 c1
  have l4 := rd4 H3 hb3
  by_cases c2 : (g.prods.length : Int) > 30
  · have c2' : decide ((g.prods.length : Int) > 30) = true := by simpa using c2
    try simp (maxSteps := 1000000) (disch := omega) only [BOps_nil, BOps_cons, Cont_eq, Bev, rd, rdB, ev, updO, upd, wantD, List.getElem?_cons_succ, List.getElem?_cons_zero, vff, bin, optK_some, lenV, Nat.reduceEqDiff, ↓reduceIte, List.map, ne_eq, not_true_eq_false, Bool.false_eq_true, Nat.zero_add, u25, ld25, fld27_4, c1', l4, c2']
    refine hK _ _ ?_; clear hK K
    first | refine W_seq (W_cond_t (by simp only [ev]) ?_) | refine W_cond_t (by simp only [ev, upd, ↓reduceIte]) ?_
    first | refine W_regK ?_ | refine W_seq (W_regK ?_)
    intro K hK; simp (maxSteps := 1000000) (disch := omega) only [BOps_nil, BOps_cons, Cont_eq, Bev, rd, ev, updO, wantD, optK_some, ↓reduceIte, List.map]
    refine hK _ _ ?_; clear hK K
    refine W_ret ?_; simp only [thenQ, retQ, Try.results3, resV1, Option.some.injEq, exists_eq_left', upd, ↓reduceIte, List.toList_toArray, true_and]
    exact hE3
  have c2' : decide ((g.prods.length : Int) > 30) = false := by simpa using c2
  try simp (maxSteps := 1000000) (disch := omega) only [BOps_nil, BOps_cons, Cont_eq, Bev, rd, rdB, ev, updO, upd, wantD, List.getElem?_cons_succ, List.getElem?_cons_zero, vff, bin, optK_some, lenV, Nat.reduceEqDiff, ↓reduceIte, List.map, ne_eq, not_true_eq_false, Bool.false_eq_true, Nat.zero_add, u25, ld25, fld27_4, c1', l4, c2']
  refine hK _ _ ?_; clear hK K
  first | refine W_seq (W_cond_f (by simp only [ev]) ?_) | refine W_cond_f (by simp only [ev, upd, ↓reduceIte]) ?_
  refine W_skip ?_; try simp only [thenQ]
  have l0 := rd5 H3 hb3
  first | refine W_regK ?_ | refine W_seq (W_regK ?_)
  intro K hK; simp (maxSteps := 1000000) (disch := omega) only [BOps_cons, Cont_eq, Bev, rd, ev, updO, upd, wantD, argf, optK_some, Nat.reduceEqDiff, ↓reduceIte, List.map, List.map_toArray, List.append_toArray, List.append_nil, List.nil_append, Option.map_some, ld27, l0, ag]
  refine (terms_spec H3 _ _ _ _ _ v g l 14 (by omega) hg3 (hv.ext hE3) hl hb).mono ?_
  rintro r H4 ⟨f3, ks, hks, hto⟩
  have hE4 := hE3.trans f3
  have hb4 := f3.get hb3
  have hg4 := hg.ext hE4
  obtain ⟨ka, kc, rfl⟩ := hks.opn'
  have hcap := (rdI_cap hks).2
  have hkl := hto.len
  have hkok : KOk g ks := ⟨by omega, hto.ok⟩
  try simp (maxSteps := 1000000) (disch := omega) only [BOps_nil, BOps_cons, Cont_eq, Bev, rd, ev, updO, upd, wantD, optK_some, ↓reduceIte]
  refine hK _ _ ?_; clear hK K
  first | refine W_regK ?_ | refine W_seq (W_regK ?_)
  intro K hK; simp (maxSteps := 1000000) (disch := omega) only [BOps_cons, Cont_eq, Bev, rd, rdB, ev, updO, upd, wantD, bin, argf, optK_some, lenV, Nat.reduceEqDiff, ↓reduceIte, List.map, List.map_toArray, ne_eq, not_true_eq_false, wrapi, List.append_toArray, List.append_nil, List.nil_append, u28]
  refine (bring_spec H4 many ((ks.length : Int) + 1) hm.1 hm.2 (by omega)).mono ?_
  rintro r H4' ⟨rfl, k, rfl, -, hk⟩
  have hk := hk (by omega)
  obtain ⟨k, rfl⟩ : ∃ n : Nat, k = n := ⟨k.toNat, by omega⟩
  have hkle : k ≤ ks.length := by omega
  try simp (maxSteps := 1000000) (disch := omega) only [BOps_nil, BOps_cons, Cont_eq, Bev, rd, ev, updO, upd, wantD, optK_some, ↓reduceIte]
  refine hK _ _ ?_; clear hK K
  have l0 := rd5 H4' hb4
  first | refine W_regK ?_ | refine W_seq (W_regK ?_)
  intro K hK; simp (maxSteps := 1000000) (disch := omega) only [BOps_cons, Cont_eq, Bev, rd, ev, updO, upd, wantD, optK_some, Nat.reduceEqDiff, ↓reduceIte, List.map, List.map_toArray, List.append_toArray, List.append_nil, List.nil_append, Option.map_some, ld27, l0, ag]
  refine (derives_ok hg4 hks hok hkok).mono ?_
  rintro r H5 ⟨f4, rfl⟩
  have hE5 := hE4.trans f4
  have hb5 := f4.get hb4
  have hg5 := hg.ext hE5
  have hks5 := RdI.ext f4 hks
  try simp (maxSteps := 1000000) (disch := omega) only [List.getElem?_toArray, BOps_nil, BOps_cons, Cont_eq, Bev, rd, ev, updO, upd, wantD, List.getElem?_cons_succ, List.getElem?_cons_zero, optK_some, Nat.reduceEqDiff, ↓reduceIte]
  refine hK _ _ ?_; clear hK K
  have l0 := rd5 H5 hb5
  first | refine W_regK ?_ | refine W_seq (W_regK ?_)
  intro K hK; simp (maxSteps := 1000000) (disch := omega) only [BOps_cons, Cont_eq, Bev, rd, ev, updO, upd, wantD, optK_some, Nat.reduceEqDiff, ↓reduceIte, List.map, List.map_toArray, List.append_toArray, List.append_nil, List.nil_append, Option.map_some, ld27, l0, ag]
  refine (viable_ok hg5 hks5 hok hkok).mono ?_
  rintro r H6 ⟨f5, rfl⟩
  have hE6 := hE5.trans f5
  have hb6 := f5.get hb5
  have hg6 := hg.ext hE6
  have hks6 := RdI.ext f5 hks5
  try simp (maxSteps := 1000000) (disch := omega) only [List.getElem?_toArray, BOps_nil, BOps_cons, Cont_eq, Bev, rd, ev, updO, upd, wantD, List.getElem?_cons_succ, List.getElem?_cons_zero, optK_some, Nat.reduceEqDiff, ↓reduceIte]
  refine hK _ _ ?_; clear hK K
  have hkok' : KOk g (ks.take k) := ⟨by simp; omega, fun x hx => hto.ok x (List.mem_of_mem_take hx)⟩
  refine W_parK 9 100 Ext (PhiV cs (.slice ka ks.length kc) k (.slice ka k kc) (viaB g (ks.take k))) mixed (by decide +kernel) .base ?_ ?_ ?_
  · intro i v lo hi Hx Hy hx hp
    match i, hp with
    | 0, hp | 1, hp | 2, hp | 3, hp | 4, hp | 5, hp | 6, hp | 7, hp | 8, hp => exact hp
    | i + 9, hp => trivial
  · simp only [ParSteps, List.take_succ_cons, List.take_zero]
    refine ⟨?_, ?_, ?_, ?_, ?_, ?_, ?_, ?_, ?_, trivial⟩
    · intro f1 Hy hx hout hdep; simp [depsOf, Region.binds, DepFacts] at hdep
      have hx : Ext H6 Hy := hx
      have e3 : f1 3 = .pointer (some ⟨b, 0, none⟩) := by rw [hout 3 (by decide +kernel)]; simp [upd]
      have l0 := rd5 Hy (hx.get hb6)
      simp (maxSteps := 1000000) (disch := omega) only [wantB, Bev, rd, ev, optK_some, ↓reduceIte, reduceCtorEq, and_true, Option.map_some, ld27, e3, PhiV, l0]
      exact .refl _
    · intro f1 Hy hx hout hdep; simp [depsOf, Region.binds, DepFacts] at hdep
      have e7 : f1 7 = .slice ka ks.length kc := by rw [hout 7 (by decide +kernel)]; simp [upd]
      simp (maxSteps := 1000000) (disch := omega) only [wantB, Bev, rd, ev, optK_some, Nat.reduceEqDiff, ↓reduceIte, and_true, Nat.zero_add, e7, PhiV]
      exact .refl _
    · intro f1 Hy hx hout hdep; simp [depsOf, Region.binds, DepFacts] at hdep
      have e8 : f1 8 = .int .i64 k := by rw [hout 8 (by decide +kernel)]; simp [upd]
      simp (maxSteps := 1000000) (disch := omega) only [wantB, Bev, rd, ev, optK_some, Nat.reduceEqDiff, ↓reduceIte, and_true, Nat.reduceAdd, Nat.zero_add, e8, PhiV]
      exact .refl _
    · intro f1 Hy hx hout hdep; simp [depsOf, Region.binds, DepFacts, factAt, dstAt, PhiV] at hdep
      have hs := slc_hi u28 ixk28 ka ks.length kc k (by omega)
      simp (maxSteps := 1000000) (disch := omega) only [wantB, Bev, ev, optK_some, Nat.reduceEqDiff, ↓reduceIte, and_true, Option.map_some, Option.map_none, Nat.reduceAdd, Nat.zero_add, hdep.1, hdep.2, PhiV, hs]
      exact .refl _
    · intro f1 Hy hx hout hdep; simp [depsOf, Region.binds, DepFacts, factAt, dstAt, PhiV] at hdep
      have hx : Ext H6 Hy := hx
      simp (maxSteps := 1000000) (disch := omega) only [wantB, Bev, ev, Nat.reduceEqDiff, ↓reduceIte, List.map, List.map_toArray, List.append_toArray, List.append_nil, List.nil_append, Nat.reduceAdd, Nat.zero_add, hdep.1, hdep.2, PhiV, ag]
      refine (viable_ok (hg6.ext hx) (rdI_take (RdI.ext hx hks6) hkle) hok hkok').mono ?_
      rintro r H' ⟨h1, h2⟩
      exact ⟨h1, h2⟩
    · intro f1 Hy hx hout hdep; simp [depsOf, Region.binds, DepFacts, factAt, dstAt, PhiV] at hdep
      simp (maxSteps := 1000000) (disch := omega) only [wantB, Bev, rd, ev, optK_some, Nat.reduceEqDiff, ↓reduceIte, and_true, Nat.reduceAdd, Nat.zero_add, hdep, PhiV]
      exact .refl _
    · intro f1 Hy hx hout hdep; simp [depsOf, Region.binds, DepFacts, factAt, dstAt, PhiV] at hdep
      simp (maxSteps := 1000000) (disch := omega) only [wantB, List.getElem?_toArray, Bev, rd, ev, List.getElem?_cons_zero, optK_some, Nat.reduceEqDiff, ↓reduceIte, and_true, Nat.reduceAdd, Nat.zero_add, hdep, PhiV]
      exact .refl _
    · intro f1 Hy hx hout hdep; simp [depsOf, Region.binds, DepFacts, factAt, dstAt, PhiV] at hdep
      simp (maxSteps := 1000000) (disch := omega) only [wantB, List.getElem?_toArray, Bev, rd, ev, List.getElem?_cons_succ, List.getElem?_cons_zero, optK_some, Nat.reduceEqDiff, ↓reduceIte, and_true, Nat.reduceAdd, Nat.zero_add, hdep, PhiV]
      exact .refl _
    · intro f1 Hy hx hout hdep; simp [depsOf, Region.binds, DepFacts, factAt, dstAt, PhiV] at hdep
      simp (maxSteps := 1000000) (disch := omega) only [wantB, Bev, rd, ev, optK_some, Nat.reduceEqDiff, ↓reduceIte, and_true, Nat.reduceAdd, Nat.zero_add, hdep, PhiV]
      exact .refl _
  intro K hK fz H7 lo hi hxx hout hff hdis
  have hf8 := (hff 8 (by omega)).1
  have hf7 := (hff 7 (by omega)).1
  simp [factAt, dstAt, PhiV] at hf8 hf7
  have hxx : Ext H6 H7 := hxx
  have hE7 := hE6.trans hxx
  have hb7 := hxx.get hb6
  have hg7 := hg.ext hE7
  have hks7 := RdI.ext hxx hks6
  have e3 : fz 3 = .pointer (some ⟨b, 0, none⟩) := by rw [hout 3 (by decide +kernel)]; simp [upd]
  have e7 : fz 7 = .slice ka ks.length kc := by rw [hout 7 (by decide +kernel)]; simp [upd]
  have e9 : fz 9 = .bool (derB g ks) := by rw [hout 9 (by decide +kernel)]; simp [upd]
  have e10 : fz 10 = .int .i64 0 := by rw [hout 10 (by decide +kernel)]; simp [upd]
  have e11 : fz 11 = .bool (viaB g ks) := by rw [hout 11 (by decide +kernel)]; simp [upd]
  have e12 : fz 12 = .int .i64 0 := by rw [hout 12 (by decide +kernel)]; simp [upd]
  simp only [List.drop_succ_cons, List.drop_zero]
  try simp (maxSteps := 1000000) (disch := omega) only [BOps_nil, BOps_cons, Cont_eq, Bev, rd, ev, updO, wantD, optK_some, ↓reduceIte, List.map, hf7]
  refine hK _ _ ?_; clear hK K
  have l0 := rd5 H7 hb7
  first | refine W_regK ?_ | refine W_seq (W_regK ?_)
  intro K hK; simp (maxSteps := 1000000) (disch := omega) only [BOps_cons, Cont_eq, Bev, rd, ev, updO, upd, wantD, optK_some, Nat.reduceEqDiff, ↓reduceIte, List.map, List.map_toArray, List.append_toArray, List.append_nil, List.nil_append, Option.map_some, ld27, l0, ag, e3, e7]
  refine (counts_ok hg7 hks7 hok hkok).mono ?_
  rintro r H8 ⟨f6, W, hW, rfl⟩
  have hE8 := hE7.trans f6
  have hb8 := f6.get hb7
  have hg8 := hg.ext hE8
  have hwlo := hW.ok.lo ⟨0, 0, ks.length⟩
  have hwhi := hW.ok.hi ⟨0, 0, ks.length⟩
  try simp (maxSteps := 1000000) (disch := omega) only [List.getElem?_toArray, BOps_nil, BOps_cons, Cont_eq, Bev, rd, ev, updO, upd, wantD, List.getElem?_cons_succ, List.getElem?_cons_zero, optK_some, Nat.reduceEqDiff, ↓reduceIte]
  refine hK _ _ ?_; clear hK K
  have l0 := rd5 H8 hb8
  first | refine W_regK ?_ | refine W_seq (W_regK ?_)
  intro K hK; simp (maxSteps := 1000000) (disch := omega) only [BOps_cons, Cont_eq, Bev, rd, ev, updO, upd, wantD, optK_some, Nat.reduceEqDiff, ↓reduceIte, List.map, List.map_toArray, List.append_toArray, List.append_nil, List.nil_append, Option.map_some, ld27, l0, ag, e3]
  refine (viable_ok hg8 (rdI_nil H8) hok ⟨by simp, by simp⟩).mono ?_
  rintro r H9 ⟨f7, rfl⟩
  have hE9 := hE8.trans f7
  have hv0 : viaB g [] = true := (viaB_iff g []).2 ⟨_, .init⟩
  rw [hv0]
  try simp (maxSteps := 1000000) (disch := omega) only [List.getElem?_toArray, BOps_nil, BOps_cons, Cont_eq, Bev, rd, ev, updO, upd, wantD, List.getElem?_cons_succ, List.getElem?_cons_zero, optK_some, Nat.reduceEqDiff, ↓reduceIte]
  refine hK _ _ ?_; clear hK K
  have q1 : derB g ks = decide (W ⟨0, 0, ks.length⟩ > 0) := by
    have h1 := (derB_iff g ks).trans ((cht_derives hok hkok.2).trans (ways_pos hok hW).symm)
    by_cases h : W ⟨0, 0, ks.length⟩ > 0
    · rw [decide_eq_true h]; exact h1.2 h
    · rw [decide_eq_false h]
      cases hd : derB g ks with
      | true => exact absurd (h1.1 hd) h
      | false => rfl
  have q2 : derB g ks = true → viaB g ks = true := fun h => (viaB_iff g ks).2 ⟨_, (derB_iff g ks).1 h⟩
  have q3 : viaB g ks = true → viaB g (ks.take k) = true := fun h => (viaB_iff g _).2 (viable_take hok.sh hkok.2 hkle ((viaB_iff g ks).1 h))
  have w0 : decide (W ⟨0, 0, ks.length⟩ ≥ 0) = true := by simpa using hwlo
  have w2 : decide (W ⟨0, 0, ks.length⟩ ≤ 2) = true := by simpa using hwhi
  rw [q1] at q2
  rw [q1] at e9
  cases d1 : decide (W ⟨0, 0, ks.length⟩ > 0) <;> cases d2 : viaB g ks <;> cases d3 : viaB g (ks.take k) <;> rw [d1] at e9 q2 <;> rw [d2] at e11 q2 q3 <;> rw [d3] at hf8 q3 <;> (try (exfalso; simp at q2; done)) <;> (try (exfalso; simp at q3; done))
  all_goals
    first | refine W_regK ?_ | refine W_seq (W_regK ?_)
    intro K hK; simp (maxSteps := 1000000) (disch := omega) only [BOps_nil, BOps_cons, Cont_eq, Bev, rd, ev, updO, upd, wantD, List.getElem?_cons_succ, List.getElem?_cons_zero, vtf, Bool.not_true, Bool.not_false, bin, optK_some, Nat.reduceEqDiff, ↓reduceIte, List.map, ne_eq, not_true_eq_false, Bool.false_eq_true, u4, e9, e10, e11, e12, hf8, w0, w2, d1, beq_self_eq_true]
    refine hK _ _ ?_; clear hK K
    refine W_ret ?_; simp only [retQ, Try.results3, resV1, Option.some.injEq, exists_eq_left', upd, ↓reduceIte, List.toList_toArray, true_and]
    exact hE9
end Go.Proofs.Yteheedbhmggcgaa
