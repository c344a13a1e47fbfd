import Derived.Test.YteheedbhmggcgaaEC
namespace Go.Proofs.Yteheedbhmggcgaa
open Go Go.Vy Go.Proofs
set_option linter.unusedSimpArgs false
set_option linter.unusedVariables false
theorem bld68 (a b c : Int) : bldV Try.prog 68 [(0, .int .i64 a), (1, .int .i64 b), (2, .int .i64 c)] = some (.agg #[.int .i64 a, .int .i64 b, .int .i64 c]) := by
  simp [bldV, plc68, hz68, zc68, bld, ow, Value.cells]
def PhiB (c xb : Nat) (x : It) (w : Value) (l : List It) (S : Nat) : Fact
  | 0, v, _, _, _ | 3, v, _, _, _ => v = .pointer (some ⟨c, 0, none⟩)
  | 1, v, _, _, _ => v = .pointer (some ⟨xb, 2, none⟩)
  | 2, v, _, _, _ => v = .int .i64 x.f
  | 4, v, _, _, _ => v = .pointer (some ⟨c, 6, none⟩)
  | 5, v, _, _, _ => v = .pointer (some ⟨c, 6 + x.f.toNat, none⟩)
  | 6, v, _, _, _ => v = w
  | 7, v, _, _, H => ∃ Bc, Own H v 68 3 l.length (l.flatMap It.cells) Bc ∧ ∀ b, Bc = some b → S ≤ b
  | 8, v, _, _, _ => v = .int .i64 l.length
  | 9, v, _, _, _ => v = .int .i64 0
  | _, _, _, _, _ => True
set_option maxRecDepth 100000 in
theorem row_spec (H0 H : Hp) (c : Nat) (cs : List Value) (R : Nat → List It) (mb : Nat → Nat) (B : Nat → Option Nat) (rv : Nat → Value) (g : Gm) (ks : List Int) (h : Ch H0 H c cs R mb B rv) (hd : Hd H0 cs g ks) (hg : Good g ks R) (a : Nat) (ha : a ≤ ks.length) :
    CallsV Try.prog 35 [.pointer (some ⟨c, 0, none⟩), .int .i64 a].toArray H (fun r H' => ∃ R' B' rv', Ch H0 H' c cs R' mb B' rv' ∧ Good g ks R' ∧ Gr R R' ∧ Oth a R R' ∧ Clo g ks R' a) := by
  have hsh := hd.sh
  have hkl := hd.kl
  have hnp := hsh.np
  have hnt := hsh.nt
  have hnn := hsh.nn
  have hd' := hd
  obtain ⟨vt, vl, vp, vn, vd, vk, at_, ct, bp, op, cap, ra, rb, ro, rc, hcs, ho⟩ := hd.opn
  obtain ⟨rfl, rfl, hP, hk⟩ := ho
  obtain ⟨ak, ck, rfl⟩ := hk.opn'
  refine calls_W (m := 165) Try.call35 Try.func35 rfl rfl (by decide +kernel) (by simp) ?_
  refine W_scopeL (fun z f H' => ∃ n R' B' rv', z = 101504 - n ∧ f 0 = .pointer (some ⟨c, 0, none⟩) ∧ f 1 = .int .i64 a ∧ f 4 = .int .i64 (n : Nat) ∧ Ch H0 H' c cs R' mb B' rv' ∧ RowInv g ks R R' a n) ?_ ?_
  · refine W_reg ?_; simp (maxSteps := 1000000) (disch := omega) only [BOps_nil, BOps_cons, Cont_eq, Bev, rd, ev, updO, wantD, optK_some, ↓reduceIte, List.map]
    simp only [thenQ]
    exact ⟨_, 0, R, B, rv, rfl, by simp [upd, argf], by simp [upd, argf], by simp [upd], h, ⟨hg, Gr.refl R, fun j _ _ => rfl, Nat.zero_le _, by omega, by omega, by omega, by omega⟩⟩
  clear h hg
  rintro z f H1 ⟨n, R1, B1, rv1, rfl, g0, g1, g4, h, hI⟩
  have hlr := h.row a (by omega) (by omega)
  simp only [Int.toNat_natCast, Nat.mul_one] at hlr
  have hown := h.own a (by omega)
  have hfew := hI.good.few hsh a
  have hrd := own_rde hown
  obtain ⟨a1, c1, e1⟩ := hrd.opn'
  rw [List.length_map] at e1
  rw [e1] at hlr
  by_cases c1 : n = (R1 a).length
  · have c1' : ((n : Int) == ((R1 a).length : Int)) = true := beq_iff_eq.2 (by omega)
    first | refine W_regK ?_ | refine W_seq (W_regK ?_)
    intro K hK; simp (maxSteps := 1000000) (disch := omega) only [BOps_nil, BOps_cons, Cont_eq, Bev, rd, rdB, ev, updO, upd, wantD, bin, optK_some, lenV, Nat.reduceEqDiff, ↓reduceIte, List.map, ne_eq, not_true_eq_false, reduceCtorEq, inI_pos, Nat.zero_add, u62, ld62, ixk63, fld66_2, g0, g1, g4, hlr, c1', Int.toNat_natCast, Nat.mul_one]
    refine hK _ _ ?_; clear hK K
    first | refine W_seq (W_cond_t (by simp only [ev]) ?_) | refine W_cond_t (by simp only [ev, upd, ↓reduceIte]) ?_
    refine W_ret ?_; simp only [thenQ, jumpQ, retQ, Try.results35, resV0, Option.some.injEq, exists_eq_left', List.toList_toArray]
    subst c1
    exact ⟨R1, B1, rv1, h, hI.good, hI.gr, hI.oth, hI.clo⟩
  have c1' : ((n : Int) == ((R1 a).length : Int)) = false := beq_eq_false_iff_ne.2 (by omega)
  first | refine W_regK ?_ | refine W_seq (W_regK ?_)
  intro K hK; simp (maxSteps := 1000000) (disch := omega) only [BOps_nil, BOps_cons, Cont_eq, Bev, rd, rdB, ev, updO, upd, wantD, bin, optK_some, lenV, Nat.reduceEqDiff, ↓reduceIte, List.map, ne_eq, not_true_eq_false, reduceCtorEq, inI_pos, Nat.zero_add, u62, ld62, ixk63, fld66_2, g0, g1, g4, hlr, c1', Int.toNat_natCast, Nat.mul_one]
  refine hK _ _ ?_; clear hK K
  first | refine W_seq (W_cond_f (by simp only [ev]) ?_) | refine W_cond_f (by simp only [ev, upd, ↓reduceIte]) ?_
  refine W_skip ?_; try simp only [thenQ]
  have hlt : n < (R1 a).length := by have := hI.le; omega
  obtain ⟨kb, ko, kc, e2, -, hrow⟩ := hrd.opn (by rw [List.length_map]; omega)
  rw [List.length_map, e1] at e2
  injection e2 with e2 _ _
  subst e2
  generalize hxd : (R1 a)[n] = x
  have hx : (R1 a)[n]? = some x := by rw [List.getElem?_eq_getElem hlt, hxd]
  have hxm := List.mem_of_getElem? hx
  have hxo := hI.good.ok a x hxm
  have hx3 : ldn H1 3 ⟨kb, ko + n * 3, none⟩ = some [.int .i64 x.p, .int .i64 x.d, .int .i64 x.f] := by
    have := hrow n (by omega) (by rw [List.length_map]; omega)
    rw [Int.toNat_natCast] at this
    rw [this]; simp [hlt, hxd, It.cells]
  clear hrow
  first | refine W_regK ?_ | refine W_seq (W_regK ?_)
  intro K hK; simp (maxSteps := 1000000) (disch := omega) only [stn_new_iii, optH_some, BOps_nil, BOps_cons, Cont_eq, Bev, rd, ev, updO, upd, wantD, optK_some, optH_some, Nat.reduceEqDiff, ↓reduceIte, List.map, List.toList_toArray, reduceCtorEq, inI_pos, Value.cells, Option.map_some, List.size_toArray, List.length_cons, List.length_nil, Nat.reduceAdd, Nat.zero_add, ld62, ixk62, ixk63, fld66_2, hz68, ld68, st68, zc68, g0, g1, g4, hlr, hx3, Int.toNat_natCast, Nat.mul_one]
  have hE2 := (Ext.refl H1).push (row 68 [.int .i64 x.p, .int .i64 x.d, .int .i64 x.f])
  have hb2 := get_new H1 (row 68 [.int .i64 x.p, .int .i64 x.d, .int .i64 x.f])
  have ho2 := h.new (Nat.le_refl H1.size)
  have hxb0 : H0.size ≤ H1.size := h.ext.size
  have h2 := h.grow hE2
  generalize hk0 : H1.size = xb at *
  generalize H1.push _ = H2 at *
  clear hlr hx3 hown hrd h hE2
  refine hK _ _ ?_; clear hK K
  first | refine W_regK ?_ | refine W_seq (W_regK ?_)
  intro K hK; simp (maxSteps := 1000000) (disch := omega) only [BOps_nil, BOps_cons, Cont_eq, Bev, rd, ev, updO, upd, wantD, bin, optK_some, Nat.reduceEqDiff, ↓reduceIte, List.map, ne_eq, not_true_eq_false, wrapi, g4]
  refine hK _ _ ?_; clear hK K
  have hl68 : ldn H2 3 ⟨xb, 0, none⟩ = some [.int .i64 x.p, .int .i64 x.d, .int .i64 x.f] := by rw [ldn_row hb2]; rfl
  first | refine W_regK ?_ | refine W_seq (W_regK ?_)
  intro K hK; simp (maxSteps := 1000000) (disch := omega) only [BOps_cons, Cont_eq, Bev, rd, ev, updO, upd, wantD, optK_some, Nat.reduceEqDiff, ↓reduceIte, List.map, List.map_toArray, reduceCtorEq, List.append_toArray, List.append_nil, List.nil_append, Option.map_some, ld68, g0, hl68]
  refine (behind_spec H0 H2 c cs R1 mb B1 rv1 g ks h2 hd' x hxo).mono ?_
  rintro r H3 ⟨hE3, rfl⟩
  simp (maxSteps := 1000000) (disch := omega) only [List.getElem?_toArray, BOps_nil, BOps_cons, Cont_eq, Bev, rd, ev, updO, upd, wantD, List.getElem?_cons_succ, List.getElem?_cons_zero, optK_some, Nat.reduceEqDiff, ↓reduceIte]
  refine hK _ _ ?_; clear hK K
  have h := h2.grow hE3
  have hb := hE3.get hb2
  clear h2 hb2 hE3 hl68
  have l0 : ldc H3 ⟨c, 0, none⟩ = some (.slice at_ g.nt ct) := by rw [h.head 0 (by omega), hcs]; rfl
  have l4 : ldc H3 ⟨c, 4, none⟩ = some (.slice (some ⟨bp, op, none⟩) g.prods.length cap) := by rw [h.head 4 (by omega), hcs]; rfl
  have hx0 : ldc H3 ⟨xb, 0, none⟩ = some (.int .i64 x.p) := ldc_row hb 0
  have hx1 : ldc H3 ⟨xb, 1, none⟩ = some (.int .i64 x.d) := ldc_row hb 1
  have hx2 : ldc H3 ⟨xb, 2, none⟩ = some (.int .i64 x.f) := ldc_row hb 2
  first | refine W_regK ?_ | refine W_seq (W_regK ?_)
  intro K hK; simp (maxSteps := 1000000) (disch := omega) only [BOps_nil, BOps_cons, Cont_eq, Bev, rd, rdB, ev, updO, upd, wantD, optK_some, lenV, ↓reduceIte, List.map, reduceCtorEq, Nat.add_zero, u22, ld22, fld27_0, fld66_0, g0, l0]
  refine hK _ _ ?_; clear hK K
  first | refine W_seq (W_block ?_) | refine W_block ?_
  cases hnx : nxt g x with
  | none =>
    first | refine W_regK ?_ | refine W_seq (W_regK ?_)
    intro K hK; simp (maxSteps := 1000000) (disch := omega) only [BOps_nil, BOps_cons, Cont_eq, Bev, rd, ev, updO, upd, wantD, Bool.not_false, optK_some, Nat.reduceEqDiff, ↓reduceIte, List.map, Option.isSome_none, Option.getD_none]
    refine hK _ _ ?_; clear hK K
    first | refine W_seq (W_cond_t (by simp only [ev]) ?_) | refine W_cond_t (by simp only [ev, upd, ↓reduceIte]) ?_
    have hf0 := hxo.f0
    have hf1 := hxo.f1
    have hxf := hI.good.fr a x hxm
    have hlr := h.row x.f hf0 hf1
    have hown := h.own x.f.toNat (by omega)
    have hfewL := hI.good.few hsh x.f.toNat
    rw [Nat.mul_one] at hlr
    refine W_parK 10 100 Ext (PhiB c xb x (rv1 x.f.toNat) (R1 x.f.toNat) H3.size) mixed (by decide +kernel) .base ?_ ?_ ?_
    · intro k v lo hi Hx Hy hx hp
      have hx : Ext Hx Hy := by split at hx <;> exact hx
      match k, hp with
      | 0, hp | 1, hp | 2, hp | 3, hp | 4, hp | 5, hp | 6, hp | 8, hp | 9, hp => exact hp
      | 7, hp =>
        obtain ⟨Bc, h1, h2⟩ := hp
        exact ⟨Bc, h1.keep fun b e => hx.blk b (h1.lt b e), h2⟩
      | k + 10, hp => trivial
    · simp only [ParSteps, List.take_succ_cons, List.take_zero]
      refine ⟨?_, ?_, ?_, ?_, ?_, ?_, ?_, ?_, ?_, ?_, trivial⟩
      · intro f1 Hy hx hout hdep; simp [depsOf, Region.binds, DepFacts] at hdep
        have e0 : f1 0 = .pointer (some ⟨c, 0, none⟩) := by rw [hout 0 (by decide +kernel)]; simp [upd, g0]
        simp (maxSteps := 1000000) (disch := omega) only [wantB, Bev, rd, ev, optK_some, ↓reduceIte, reduceCtorEq, and_true, e0, PhiB]
        exact .refl _
      · intro f1 Hy hx hout hdep; simp [depsOf, Region.binds, DepFacts] at hdep
        have e5 : f1 5 = .pointer (some ⟨xb, 0, none⟩) := by rw [hout 5 (by decide +kernel)]; simp [upd]
        simp (maxSteps := 1000000) (disch := omega) only [wantB, Bev, rd, ev, optK_some, Nat.reduceEqDiff, ↓reduceIte, and_true, Nat.zero_add, fld68_2, e5, PhiB]
        exact .refl _
      · intro f1 Hy hx hout hdep; simp [depsOf, Region.binds, DepFacts, factAt, dstAt, PhiB] at hdep
        have hx : Ext H3 Hy := hx
        have l := ldc_ext hx hx2
        simp (maxSteps := 1000000) (disch := omega) only [wantB, Bev, rd, ev, optK_some, Nat.reduceEqDiff, ↓reduceIte, and_true, Nat.reduceAdd, Nat.zero_add, ld3, hdep, PhiB, l]
        exact .refl _
      · intro f1 Hy hx hout hdep; simp [depsOf, Region.binds, DepFacts, factAt, dstAt, PhiB] at hdep
        simp (maxSteps := 1000000) (disch := omega) only [wantB, Bev, rd, ev, optK_some, Nat.reduceEqDiff, ↓reduceIte, and_true, Nat.reduceAdd, Nat.zero_add, hdep, PhiB]
        exact .refl _
      · intro f1 Hy hx hout hdep; simp [depsOf, Region.binds, DepFacts, factAt, dstAt, PhiB] at hdep
        simp (maxSteps := 1000000) (disch := omega) only [wantB, Bev, rd, ev, optK_some, Nat.reduceEqDiff, ↓reduceIte, and_true, Nat.reduceAdd, Nat.zero_add, fld66_2, hdep, PhiB]
        exact .refl _
      · intro f1 Hy hx hout hdep; simp [depsOf, Region.binds, DepFacts, factAt, dstAt, PhiB] at hdep
        simp (maxSteps := 1000000) (disch := omega) only [wantB, Bev, rd, ev, optK_some, Nat.reduceEqDiff, ↓reduceIte, inI_pos, and_true, Nat.reduceAdd, Nat.zero_add, ixk63, hdep.1, hdep.2, PhiB, Nat.mul_one]
        exact .refl _
      · intro f1 Hy hx hout hdep; simp [depsOf, Region.binds, DepFacts, factAt, dstAt, PhiB] at hdep
        have hx : Ext H3 Hy := hx
        have l := ldc_ext hx hlr
        simp (maxSteps := 1000000) (disch := omega) only [wantB, Bev, rd, ev, optK_some, Nat.reduceEqDiff, ↓reduceIte, and_true, Nat.reduceAdd, Nat.zero_add, ld62, hdep, PhiB, l]
        exact .refl _
      · intro f1 Hy hx hout hdep; simp [depsOf, Region.binds, DepFacts, factAt, dstAt, PhiB] at hdep
        have hx : Ext H3 Hy := hx
        simp (maxSteps := 1000000) (disch := omega) only [wantB, Bev, ev, Nat.reduceEqDiff, ↓reduceIte, List.map, List.map_toArray, List.append_toArray, List.append_nil, List.nil_append, Nat.reduceAdd, Nat.zero_add, hdep, PhiB]
        refine (clone_spec Hy _ _ _ (hown.keep fun b e => hx.blk b (hown.lt b e)) (by omega)).mono ?_
        rintro r H5 ⟨hE5, Bc, ho, hb5⟩
        exact ⟨hE5, Bc, ho, fun b e => by have := hb5 b e; have := hx.size; omega⟩
      · intro f1 Hy hx hout hdep; simp [depsOf, Region.binds, DepFacts, factAt, dstAt, PhiB] at hdep
        obtain ⟨Bc, hoc, -⟩ := hdep
        obtain ⟨ac, cc, ec⟩ := (own_rde hoc).opn'
        rw [List.length_map] at ec
        simp (maxSteps := 1000000) (disch := omega) only [wantB, Bev, rdB, ev, optK_some, lenV, Nat.reduceEqDiff, ↓reduceIte, List.map, and_true, Nat.reduceAdd, Nat.zero_add, u62, ec, PhiB]
        exact .refl _
      · intro f1 Hy hx hout hdep; simp [depsOf, Region.binds, DepFacts] at hdep
        simp (maxSteps := 1000000) (disch := omega) only [wantB, Bev, rd, ev, optK_some, Nat.reduceEqDiff, ↓reduceIte, and_true, Nat.reduceAdd, Nat.zero_add, PhiB]
        exact .refl _
    intro K hK f1 H4 lo hi hxx hout hff hdis
    have hf7 := (hff 7 (by omega)).1
    have hf8 := (hff 8 (by omega)).1
    have hf9 := (hff 9 (by omega)).1
    simp [factAt, dstAt, PhiB] at hf7 hf8 hf9
    simp only [List.drop_succ_cons, List.drop_zero]
    have hxx : Ext H3 H4 := hxx
    have e0 : f1 0 = .pointer (some ⟨c, 0, none⟩) := by rw [hout 0 (by decide +kernel)]; simp [upd, g0]
    have e1' : f1 1 = .int .i64 a := by rw [hout 1 (by decide +kernel)]; simp [upd, g1]
    have e4 : f1 4 = .int .i64 ((n : Int) + 1) := by rw [hout 4 (by decide +kernel)]; simp [upd]
    have e5 : f1 5 = .pointer (some ⟨xb, 0, none⟩) := by rw [hout 5 (by decide +kernel)]; simp [upd]
    have e8 : f1 8 = .int .i64 g.nt := by rw [hout 8 (by decide +kernel)]; simp [upd]
    obtain ⟨Bc, hoc, hBc⟩ := hf7
    generalize hL : R1 x.f.toNat = L at *
    obtain ⟨ac, cc, ec⟩ := (own_rde hoc).opn'
    rw [List.length_map] at ec
    rw [ec] at hoc
    have hoffc : ∀ b, Bc = some b → Off c mb B1 b ∧ b ≠ xb ∧ H0.size ≤ b := fun b e => ⟨h.new (hBc b e), by have := hBc b e; have := lt_of_get hb; omega, by have := hBc b e; have := h.ext.size; omega⟩
    have h4 := h.grow hxx
    have hb4 := hxx.get hb
    simp (maxSteps := 1000000) (disch := omega) only [BOps_nil, List.map]
    refine hK _ _ ?_; clear hK K
    first | refine W_seq (W_block (W_loop (fun z f H' => ∃ (j : Nat) (R2 : Nat → List It) (B2 : Nat → Option Nat) (rv2 : Nat → Value), j ≤ L.length ∧ z = L.length - j ∧ f 0 = .pointer (some ⟨c, 0, none⟩) ∧ f 1 = .int .i64 a ∧ f 4 = .int .i64 ((n : Int) + 1) ∧ f 5 = .pointer (some ⟨xb, 0, none⟩) ∧ f 8 = .int .i64 g.nt ∧ f 57 = .slice ac L.length cc ∧ f 58 = .int .i64 L.length ∧ f 59 = .int .i64 j ∧         Ch H0 H' c cs R2 mb B2 rv2 ∧ Good g ks R2 ∧ Gr R1 R2 ∧ Oth a R1 R2 ∧ H'[xb]? = some (row 68 [.int .i64 x.p, .int .i64 x.d, .int .i64 x.f]) ∧ Off c mb B2 xb ∧ Own H' (.slice ac L.length cc) 68 3 L.length (L.flatMap It.cells) Bc ∧ (∀ b, Bc = some b → Off c mb B2 b) ∧ ∀ i, i < j → ∀ y, L[i]? = some y → nxt g y = some (g.nt + (gp g x.p).left) → adv y ∈ R2 a) L.length ?_ ?_)) | refine W_block (W_loop (fun z f H' => ∃ (j : Nat) (R2 : Nat → List It) (B2 : Nat → Option Nat) (rv2 : Nat → Value), j ≤ L.length ∧ z = L.length - j ∧ f 0 = .pointer (some ⟨c, 0, none⟩) ∧ f 1 = .int .i64 a ∧ f 4 = .int .i64 ((n : Int) + 1) ∧ f 5 = .pointer (some ⟨xb, 0, none⟩) ∧ f 8 = .int .i64 g.nt ∧ f 57 = .slice ac L.length cc ∧ f 58 = .int .i64 L.length ∧ f 59 = .int .i64 j ∧         Ch H0 H' c cs R2 mb B2 rv2 ∧ Good g ks R2 ∧ Gr R1 R2 ∧ Oth a R1 R2 ∧ H'[xb]? = some (row 68 [.int .i64 x.p, .int .i64 x.d, .int .i64 x.f]) ∧ Off c mb B2 xb ∧ Own H' (.slice ac L.length cc) 68 3 L.length (L.flatMap It.cells) Bc ∧ (∀ b, Bc = some b → Off c mb B2 b) ∧ ∀ i, i < j → ∀ y, L[i]? = some y → nxt g y = some (g.nt + (gp g x.p).left) → adv y ∈ R2 a) L.length ?_ ?_)
    · exact ⟨0, R1, B1, rv1, by omega, by omega, e0, e1', e4, e5, e8, ec, hf8, hf9, h4, hI.good, Gr.refl _, fun j _ _ => rfl, hb4, ho2, hoc, fun b e => (hoffc b e).1, by omega⟩
    clear h hb l0 l4 hx0 hx1 hx2 g0 g1 g4 ho2 h4 hb4 e0 e1' e4 e5 e8 hoc hxx hout hff hdis ec hf8 hf9
    rintro z f2 H4 ⟨j, R2, B2, rv2, j1, rfl, g0, g1, g4, g5, g8, g57, g58, g59, h, hgood, hgr, hoth, hb, ho2, hoc, hofc, hpr⟩
    first | refine W_regK ?_ | refine W_seq (W_regK ?_)
    intro K hK; simp (maxSteps := 1000000) (disch := omega) only [BOps_nil, BOps_cons, Cont_eq, Bev, rd, ev, updO, wantD, bin, optK_some, ↓reduceIte, List.map, ne_eq, not_true_eq_false, g58, g59]
    refine hK _ _ ?_; clear hK K
    first | refine W_if (t := _) (by simp only [ev, upd, ↓reduceIte]; rfl) ?_ ?_ | refine W_cond (t := _) (by simp only [ev, upd, argf, Nat.reduceEqDiff, ↓reduceIte, reduceCtorEq]; rfl) ?_ ?_
    · intro hc
      have hjl : j < L.length := by simpa using hc
      refine W_skip ?_; try simp only [thenQ]
      first | refine W_seq (W_block ?_) | refine W_block ?_
      obtain ⟨kb, ko, kc, e2, -, hrow⟩ := (own_rde hoc).opn (by rw [List.length_map]; omega)
      injection e2 with e2 _ _
      subst e2
      generalize hyd : L[j] = y
      have hy : L[j]? = some y := by rw [List.getElem?_eq_getElem hjl, hyd]
      have hym : y ∈ R1 x.f.toNat := by rw [hL]; exact List.mem_of_getElem? hy
      have hyo := hI.good.ok x.f.toNat y hym
      have hyf := hI.good.fr x.f.toNat y hym
      have hy3 : ldn H4 3 ⟨kb, ko + j * 3, none⟩ = some [.int .i64 y.p, .int .i64 y.d, .int .i64 y.f] := by
        have := hrow j (by omega) (by rw [List.length_map]; omega)
        rw [Int.toNat_natCast] at this
        rw [this]; simp [hjl, hyd, It.cells]
      clear hrow
      first | refine W_regK ?_ | refine W_seq (W_regK ?_)
      intro K hK; simp (maxSteps := 1000000) (disch := omega) only [stn_new_iii, optH_some, BOps_nil, BOps_cons, Cont_eq, Bev, rd, ev, updO, upd, wantD, optK_some, optH_some, Nat.reduceEqDiff, ↓reduceIte, List.map, List.toList_toArray, inI_pos, Value.cells, Option.map_some, List.size_toArray, List.length_cons, List.length_nil, Nat.reduceAdd, Nat.zero_add, ixk62, hz68, ld68, st68, zc68, g57, g59, hy3, Int.toNat_natCast]
      have hE5 := (Ext.refl H4).push (row 68 [.int .i64 y.p, .int .i64 y.d, .int .i64 y.f])
      have hy5 := get_new H4 (row 68 [.int .i64 y.p, .int .i64 y.d, .int .i64 y.f])
      have hoy := h.new (Nat.le_refl H4.size)
      have hyxb : xb ≠ H4.size := by have := lt_of_get hb; omega
      have hybB : ∀ b, Bc = some b → b ≠ H4.size := fun b e => by have := hoc.lt b e; omega
      have hyb0 : H0.size ≤ H4.size := h.ext.size
      have h5 := h.grow hE5
      have hb5 := hE5.get hb
      have hoc5 := hoc.keep (H' := H4.push (row 68 [.int .i64 y.p, .int .i64 y.d, .int .i64 y.f])) fun b e => hE5.blk b (hoc.lt b e)
      generalize hk5 : H4.size = yb at *
      generalize H4.push _ = H5 at *
      have hl5 : ldn H5 3 ⟨yb, 0, none⟩ = some [.int .i64 y.p, .int .i64 y.d, .int .i64 y.f] := by rw [ldn_row hy5]; rfl
      refine hK _ _ ?_; clear hK K
      first | refine W_regK ?_ | refine W_seq (W_regK ?_)
      intro K hK; simp (maxSteps := 1000000) (disch := omega) only [BOps_cons, Cont_eq, Bev, rd, ev, updO, upd, wantD, optK_some, Nat.reduceEqDiff, ↓reduceIte, List.map, List.map_toArray, reduceCtorEq, List.append_toArray, List.append_nil, List.nil_append, Option.map_some, ld68, g0, hl5]
      refine (behind_spec H0 H5 c cs R2 mb B2 rv2 g ks h5 hd' y hyo).mono ?_
      rintro r H6 ⟨hE6, rfl⟩
      simp (maxSteps := 1000000) (disch := omega) only [List.getElem?_toArray, BOps_nil, BOps_cons, Cont_eq, Bev, rd, ev, updO, upd, wantD, List.getElem?_cons_succ, List.getElem?_cons_zero, optK_some, Nat.reduceEqDiff, ↓reduceIte]
      have h6 := h5.grow hE6
      have hb6 := hE6.get hb5
      have hy6 := hE6.get hy5
      have hoc6 := hoc5.keep (H' := H6) fun b e => hE6.blk b (hoc5.lt b e)
      have hP6 := hP.ext h6.ext
      clear h5 hb5 hy5 hoc5 hl5 hy3 hE5 hE6
      refine hK _ _ ?_; clear hK K
      have l4 : ldc H6 ⟨c, 4, none⟩ = some (.slice (some ⟨bp, op, none⟩) g.prods.length cap) := by rw [h6.head 4 (by omega), hcs]; rfl
      have hx0 : ldc H6 ⟨xb, 0, none⟩ = some (.int .i64 x.p) := ldc_row hb6 0
      have hlx := hP6.left x.p hxo.p0 hxo.p1
      have hleft := hsh.left _ (gp_mem hxo.p0 hxo.p1)
      have hp0 := hxo.p0
      have hp1 := hxo.p1
      have back : ∀ (R3 : Nat → List It) (B3 : Nat → Option Nat) (rv3 : Nat → Value) (f3 : Nat → Value) (H7 : Hp), f3 0 = .pointer (some ⟨c, 0, none⟩) → f3 1 = .int .i64 a → f3 4 = .int .i64 ((n : Int) + 1) → f3 5 = .pointer (some ⟨xb, 0, none⟩) → f3 8 = .int .i64 g.nt → f3 57 = .slice (some ⟨kb, ko, none⟩) L.length cc → f3 58 = .int .i64 L.length → f3 59 = .int .i64 ((j : Int) + 1) → Ch H0 H7 c cs R3 mb B3 rv3 → Good g ks R3 → Gr R2 R3 → Oth a R2 R3 → H7[xb]? = some (row 68 [.int .i64 x.p, .int .i64 x.d, .int .i64 x.f]) → Off c mb B3 xb → Own H7 (.slice (some ⟨kb, ko, none⟩) L.length cc) 68 3 L.length (L.flatMap It.cells) Bc → (∀ b, Bc = some b → Off c mb B3 b) → (nxt g y = some (g.nt + (gp g x.p).left) → adv y ∈ R3 a) →
          ∃ j', j' < L.length - j ∧ ∃ (j : Nat) (R2 : Nat → List It) (B2 : Nat → Option Nat) (rv2 : Nat → Value), j ≤ L.length ∧ j' = L.length - j ∧ f3 0 = .pointer (some ⟨c, 0, none⟩) ∧ f3 1 = .int .i64 a ∧ f3 4 = .int .i64 ((n : Int) + 1) ∧ f3 5 = .pointer (some ⟨xb, 0, none⟩) ∧ f3 8 = .int .i64 g.nt ∧ f3 57 = .slice (some ⟨kb, ko, none⟩) L.length cc ∧ f3 58 = .int .i64 L.length ∧ f3 59 = .int .i64 j ∧
        Ch H0 H7 c cs R2 mb B2 rv2 ∧ Good g ks R2 ∧ Gr R1 R2 ∧ Oth a R1 R2 ∧ H7[xb]? = some (row 68 [.int .i64 x.p, .int .i64 x.d, .int .i64 x.f]) ∧ Off c mb B2 xb ∧ Own H7 (.slice (some ⟨kb, ko, none⟩) L.length cc) 68 3 L.length (L.flatMap It.cells) Bc ∧ (∀ b, Bc = some b → Off c mb B2 b) ∧ ∀ i, i < j → ∀ y, L[i]? = some y → nxt g y = some (g.nt + (gp g x.p).left) → adv y ∈ R2 a := by
        intro R3 B3 rv3 f3 H7 q0 q1 q2 q3 q4 q5 q6 q7 q8 q9 q10 q11 q12 q13 q14 q15 q16
        refine ⟨L.length - (j + 1), by omega, j + 1, R3, B3, rv3, by omega, rfl, q0, q1, q2, q3, q4, q5, q6, q7, q8, q9, hgr.trans q10, fun i h1 h2 => (q11 i h1 h2).trans (hoth i h1 h2), q12, q13, q14, q15, ?_⟩
        intro i hi y' hy' hn
        by_cases e : i = j
        · subst e; rw [hy] at hy'; injection hy' with hy'; subst hy'; exact q16 hn
        · exact q10.mem (hpr i (by omega) y' hy' hn)
      have hofc6 := hofc
      by_cases c5 : nxt g y = some (g.nt + (gp g x.p).left)
      · have c5' : ((g.nt : Int) + (gp g x.p).left == (g.nt : Int) + (gp g x.p).left) = true := beq_self_eq_true _
        simp only [c5, Option.isSome_some, Option.getD_some]
        first | refine W_drawK mixed (by decide +kernel) ?_ | refine W_seq (W_drawK mixed (by decide +kernel) ?_)
        intro K hK; simp (maxSteps := 1000000) (disch := omega) only [optQ_some, QOps_nil, QOps_cons, QCont_eq, QBev, rq, rd, ev, updO, upd, wantD, List.getElem?_cons_succ, List.getElem?_cons_zero, vtt, bin, Nat.reduceEqDiff, ↓reduceIte, List.map, ne_eq, not_true_eq_false, reduceCtorEq, inI_pos, wrapi, Nat.zero_add, Nat.add_zero, ld3, ld25, ixk25, fld27_4, fld44_0, fld66_0, fld68_0, g0, g5, g8, l4, hx0, hlx, c5']
        refine hK _ ?_; clear hK K
        first | refine W_seq (W_cond_t (by simp only [ev]) ?_) | refine W_cond_t (by simp only [ev, upd, ↓reduceIte]) ?_
        have hdb : y.d + 1 ≤ (gp g y.p).rhs.length := by
          have := hyo.d1
          unfold nxt at c5; split at c5
          · cases c5
          · omega
        have hrl := hsh.rl _ (gp_mem hyo.p0 hyo.p1)
        have hd0 := hyo.d0
        have hy1 : ldc H6 ⟨yb, 1, none⟩ = some (.int .i64 y.d) := ldc_row hy6 1
        have hst : stn H6 ⟨yb, 1, none⟩ [.int .i64 (y.d + 1)] = some (H6.setIfInBounds yb (row 68 [.int .i64 y.p, .int .i64 (y.d + 1), .int .i64 y.f])) := by
          rw [stn_row hy6 (by simp) rfl]; rfl
        have hoy6 : Off c mb B2 yb := hoy
        first | refine W_regK ?_ | refine W_seq (W_regK ?_)
        intro K hK; simp (maxSteps := 1000000) (disch := omega) only [optH_some, BOps_nil, BOps_cons, Cont_eq, Bev, rd, ev, updO, upd, wantD, bin, optK_some, optH_some, Nat.reduceEqDiff, ↓reduceIte, List.map, List.toList_toArray, ne_eq, not_true_eq_false, wrapi, Value.cells, List.size_toArray, List.length_cons, List.length_nil, Nat.zero_add, ld3, st3, fld68_1, hy1, hst]
        have h7 := h6.setOff hoy6 hyb0 (row 68 [.int .i64 y.p, .int .i64 (y.d + 1), .int .i64 y.f])
        have hy7 := get_set (lt_of_get hy6) (row 68 [.int .i64 y.p, .int .i64 (y.d + 1), .int .i64 y.f])
        have hb7 : (H6.setIfInBounds yb (row 68 [.int .i64 y.p, .int .i64 (y.d + 1), .int .i64 y.f]))[xb]? = _ := (get_set_ne (fun e => hyxb e.symm) _).trans hb6
        have hoc7 := hoc6.keep (H' := H6.setIfInBounds yb (row 68 [.int .i64 y.p, .int .i64 (y.d + 1), .int .i64 y.f])) fun b e => get_set_ne (fun e2 => hybB b e e2.symm) _
        generalize H6.setIfInBounds yb _ = H7 at *
        have hl7 : ldn H7 3 ⟨yb, 0, none⟩ = some [.int .i64 y.p, .int .i64 (y.d + 1), .int .i64 y.f] := by rw [ldn_row hy7]; rfl
        refine hK _ _ ?_; clear hK K
        refine W_reg ?_; simp (maxSteps := 1000000) (disch := omega) only [BOps_cons, Cont_eq, Bev, rd, ev, updO, upd, wantD, optK_some, Nat.reduceEqDiff, ↓reduceIte, List.map, List.map_toArray, reduceCtorEq, List.append_toArray, List.append_nil, List.nil_append, Option.map_some, ld68, g0, g1, hl7]
        refine (add_spec H0 H7 c cs R2 mb B2 rv2 h7 (a : Int) (by omega) (by omega) (adv y) (by have := hgood.few hsh (a : Int).toNat; omega)).mono ?_
        rintro r H8 ⟨B8, rv8, h8, hsz, hfr⟩
        rw [Int.toNat_natCast] at h8
        obtain ⟨hb8, ho8⟩ := hfr xb _ hb7 ho2
        have hoc8 : Own H8 _ 68 3 L.length (L.flatMap It.cells) Bc := hoc7.keep fun b e => by
          have hlt := hoc7.lt b e
          have := hfr b H7[b] (Array.getElem?_eq_getElem hlt) (hofc b e)
          rw [this.1, Array.getElem?_eq_getElem hlt]
        have hof8 : ∀ b, Bc = some b → Off c mb B8 b := fun b e => by
          have hlt := hoc7.lt b e
          exact (hfr b H7[b] (Array.getElem?_eq_getElem hlt) (hofc b e)).2
        simp (maxSteps := 1000000) (disch := omega) only [BOps_nil, Cont_eq, updO]
        simp only [thenQ, blockQ]
        refine W_reg ?_; simp (maxSteps := 1000000) (disch := omega) only [BOps_nil, BOps_cons, Cont_eq, Bev, rd, ev, updO, upd, wantD, bin, optK_some, Nat.reduceEqDiff, ↓reduceIte, List.map, ne_eq, not_true_eq_false, wrapi, g59]
        simp only [thenQ]
        refine back _ B8 rv8 _ _ (by simp [upd, g0]) (by simp [upd, g1]) (by simp [upd, g4]) (by simp [upd, g5]) (by simp [upd, g8]) (by simp [upd, g57]) (by simp [upd, g58]) (by simp [upd]) h8 ?_ (Gr.add _ _ _) (fun i h1 _ => by simp [addR, h1]) hb8 ho8 hoc8 hof8 (fun _ => mem_addR.2 (.inr ⟨rfl, rfl⟩))
        exact hgood.add (.comp (x := x) (y := y) (hI.good.cht a x hxm) hnx (hI.good.cht _ y hym) c5) ⟨hyo.p0, hyo.p1, by simp only [adv]; omega, hdb, hyo.f0, hyo.f1⟩ (by simp only [adv]; omega)
      · have hgo : ∀ (f3 : Nat → Value), f3 0 = .pointer (some ⟨c, 0, none⟩) → f3 1 = .int .i64 a → f3 4 = .int .i64 ((n : Int) + 1) → f3 5 = .pointer (some ⟨xb, 0, none⟩) → f3 8 = .int .i64 g.nt → f3 57 = .slice (some ⟨kb, ko, none⟩) L.length cc → f3 58 = .int .i64 L.length → f3 59 = .int .i64 ((j : Int) + 1) → _ := fun f3 q0 q1 q2 q3 q4 q5 q6 q7 => back R2 B2 rv2 f3 H6 q0 q1 q2 q3 q4 q5 q6 q7 h6 hgood (Gr.refl _) (fun _ _ _ => rfl) hb6 ho2 hoc6 hofc (fun h => absurd h c5)
        cases hny : nxt g y with
        | none =>
          simp only [Option.isSome_none, Option.getD_none]
          first | refine W_drawK mixed (by decide +kernel) ?_ | refine W_seq (W_drawK mixed (by decide +kernel) ?_)
          intro K hK; simp (maxSteps := 1000000) (disch := omega) only [optQ_some, QOps_nil, QOps_cons, QCont_eq, QBev, rq, rd, ev, updO, upd, wantD, List.getElem?_cons_succ, List.getElem?_cons_zero, vft, Nat.reduceEqDiff, ↓reduceIte, List.map, Bool.false_eq_true]
          refine hK _ ?_; clear hK K
          first | refine W_seq (W_cond_f (by simp only [ev]) ?_) | refine W_cond_f (by simp only [ev, upd, ↓reduceIte]) ?_
          refine W_skip ?_; try simp only [thenQ, blockQ]
          refine W_reg ?_; simp (maxSteps := 1000000) (disch := omega) only [BOps_nil, BOps_cons, Cont_eq, Bev, rd, ev, updO, upd, wantD, bin, optK_some, Nat.reduceEqDiff, ↓reduceIte, List.map, ne_eq, not_true_eq_false, wrapi, g59]
          simp only [thenQ]
          exact hgo _ (by simp [upd, g0]) (by simp [upd, g1]) (by simp [upd, g4]) (by simp [upd, g5]) (by simp [upd, g8]) (by simp [upd, g57]) (by simp [upd, g58]) (by simp [upd])
        | some s =>
          have c5' : (s == (g.nt : Int) + (gp g x.p).left) = false := beq_eq_false_iff_ne.2 (fun e => c5 (by rw [hny, e]))
          simp only [Option.isSome_some, Option.getD_some]
          first | refine W_drawK mixed (by decide +kernel) ?_ | refine W_seq (W_drawK mixed (by decide +kernel) ?_)
          intro K hK; simp (maxSteps := 1000000) (disch := omega) only [optQ_some, QOps_nil, QOps_cons, QCont_eq, QBev, rq, rd, ev, updO, upd, wantD, List.getElem?_cons_succ, List.getElem?_cons_zero, vtt, bin, Nat.reduceEqDiff, ↓reduceIte, List.map, ne_eq, not_true_eq_false, reduceCtorEq, inI_pos, wrapi, Nat.zero_add, Nat.add_zero, ld3, ld25, ixk25, fld27_4, fld44_0, fld66_0, fld68_0, g0, g5, g8, l4, hx0, hlx, c5']
          refine hK _ ?_; clear hK K
          first | refine W_seq (W_cond_f (by simp only [ev]) ?_) | refine W_cond_f (by simp only [ev, upd, ↓reduceIte]) ?_
          refine W_skip ?_; try simp only [thenQ, blockQ]
          refine W_reg ?_; simp (maxSteps := 1000000) (disch := omega) only [BOps_nil, BOps_cons, Cont_eq, Bev, rd, ev, updO, upd, wantD, bin, optK_some, Nat.reduceEqDiff, ↓reduceIte, List.map, ne_eq, not_true_eq_false, wrapi, g59]
          simp only [thenQ]
          exact hgo _ (by simp [upd, g0]) (by simp [upd, g1]) (by simp [upd, g4]) (by simp [upd, g5]) (by simp [upd, g8]) (by simp [upd, g57]) (by simp [upd, g58]) (by simp [upd])
    · intro hc
      have hge : j = L.length := by simp at hc; omega
      subst hge
      refine W_exit ?_; simp only [thenQ, blockQ, ↓reduceIte]
      refine W_goto ?_; simp only [jumpQ, true_and]
      have hrow : RowInv g ks R R2 a (n + 1) := by
        refine hI.step hx hgood hgr hoth ?_ ?_ ?_ ?_
        · intro s hs; rw [hnx] at hs; cases hs
        · intro s hs; rw [hnx] at hs; cases hs
        · intro _ y hy hn
          rw [hL] at hy
          obtain ⟨i, hi, rfl⟩ := List.getElem_of_mem hy
          exact hpr i hi _ (List.getElem?_eq_getElem hi) hn
        · intro x' _ _ _ hn; rw [hnx] at hn; cases hn
      exact ⟨101504 - (n + 1), by omega, n + 1, R2, B2, rv2, rfl, by simp [upd, g0], by simp [upd, g1], by simp [upd, g4], h, hrow⟩
  | some s =>
    first | refine W_regK ?_ | refine W_seq (W_regK ?_)
    intro K hK; simp (maxSteps := 1000000) (disch := omega) only [BOps_nil, BOps_cons, Cont_eq, Bev, rd, ev, updO, upd, wantD, Bool.not_true, optK_some, Nat.reduceEqDiff, ↓reduceIte, List.map, Option.isSome_some, Option.getD_some]
    refine hK _ _ ?_; clear hK K
    first | refine W_seq (W_cond_f (by simp only [ev]) ?_) | refine W_cond_f (by simp only [ev, upd, ↓reduceIte]) ?_
    by_cases c2 : s ≥ g.nt
    · have c2' : decide (s ≥ (g.nt : Int)) = true := by simpa using c2
      first | refine W_regK ?_ | refine W_seq (W_regK ?_)
      intro K hK; simp (maxSteps := 1000000) (disch := omega) only [BOps_nil, BOps_cons, Cont_eq, Bev, rd, ev, updO, upd, wantD, bin, optK_some, Nat.reduceEqDiff, ↓reduceIte, List.map, ne_eq, not_true_eq_false, c2']
      refine hK _ _ ?_; clear hK K
      first | refine W_seq (W_cond_t (by simp only [ev]) ?_) | refine W_cond_t (by simp only [ev, upd, ↓reduceIte]) ?_
      first | refine W_regK ?_ | refine W_seq (W_regK ?_)
      intro K hK; simp (maxSteps := 1000000) (disch := omega) only [BOps_nil, BOps_cons, Cont_eq, Bev, rd, rdB, ev, updO, upd, wantD, optK_some, lenV, ↓reduceIte, List.map, reduceCtorEq, Nat.zero_add, Nat.add_zero, u25, ld25, fld27_4, fld66_0, g0, l4]
      refine hK _ _ ?_; clear hK K
      have hsb : s < g.nt + g.nn := by
        unfold nxt at hnx; split at hnx
        · cases hnx
        · injection hnx with hnx
          have hi : x.d.toNat < (gp g x.p).rhs.length := by have := hxo.d0; have := hxo.d1; omega
          have := hsh.sym _ (gp_mem hxo.p0 hxo.p1) (gi (gp g x.p).rhs x.d) (by simp [gi, hi])
          omega
      first | refine W_seq (W_block (W_loop (fun z f H' => ∃ (j : Int) (R2 : Nat → List It) (B2 : Nat → Option Nat) (rv2 : Nat → Value), 0 ≤ j ∧ j ≤ g.prods.length ∧ z = g.prods.length - j.toNat ∧ f 0 = .pointer (some ⟨c, 0, none⟩) ∧ f 1 = .int .i64 a ∧ f 4 = .int .i64 ((n : Int) + 1) ∧ f 5 = .pointer (some ⟨xb, 0, none⟩) ∧ f 6 = .int .i64 s ∧ f 8 = .int .i64 g.nt ∧ f 103 = .slice (some ⟨bp, op, none⟩) g.prods.length cap ∧ f 104 = .int .i64 g.prods.length ∧ f 105 = .int .i64 j ∧         Ch H0 H' c cs R2 mb B2 rv2 ∧ Good g ks R2 ∧ Gr R1 R2 ∧ Oth a R1 R2 ∧ H'[xb]? = some (row 68 [.int .i64 x.p, .int .i64 x.d, .int .i64 x.f]) ∧ Off c mb B2 xb ∧ ∀ i : Int, 0 ≤ i → i < j → (gp g i).left = s - g.nt → (⟨i, 0, a⟩ : It) ∈ R2 a) g.prods.length ?_ ?_)) | refine W_block (W_loop (fun z f H' => ∃ (j : Int) (R2 : Nat → List It) (B2 : Nat → Option Nat) (rv2 : Nat → Value), 0 ≤ j ∧ j ≤ g.prods.length ∧ z = g.prods.length - j.toNat ∧ f 0 = .pointer (some ⟨c, 0, none⟩) ∧ f 1 = .int .i64 a ∧ f 4 = .int .i64 ((n : Int) + 1) ∧ f 5 = .pointer (some ⟨xb, 0, none⟩) ∧ f 6 = .int .i64 s ∧ f 8 = .int .i64 g.nt ∧ f 103 = .slice (some ⟨bp, op, none⟩) g.prods.length cap ∧ f 104 = .int .i64 g.prods.length ∧ f 105 = .int .i64 j ∧         Ch H0 H' c cs R2 mb B2 rv2 ∧ Good g ks R2 ∧ Gr R1 R2 ∧ Oth a R1 R2 ∧ H'[xb]? = some (row 68 [.int .i64 x.p, .int .i64 x.d, .int .i64 x.f]) ∧ Off c mb B2 xb ∧ ∀ i : Int, 0 ≤ i → i < j → (gp g i).left = s - g.nt → (⟨i, 0, a⟩ : It) ∈ R2 a) g.prods.length ?_ ?_)
      · exact ⟨0, R1, B1, rv1, by omega, by omega, by omega, by simp [upd, g0], by simp [upd, g1], by simp [upd], by simp [upd], by simp [upd], by simp [upd], by simp [upd], by simp [upd], by simp [upd], h, hI.good, Gr.refl _, fun j _ _ => rfl, hb, ho2, by omega⟩
      clear h hb l0 l4 hx0 hx1 hx2 g0 g1 g4 ho2
      rintro z f2 H4 ⟨j, R2, B2, rv2, j0, j1, rfl, g0, g1, g4, g5, g6, g8, g103, g104, g105, h, hgood, hgr, hoth, hb, ho2, hpr⟩
      first | refine W_regK ?_ | refine W_seq (W_regK ?_)
      intro K hK; simp (maxSteps := 1000000) (disch := omega) only [BOps_nil, BOps_cons, Cont_eq, Bev, rd, ev, updO, wantD, bin, optK_some, ↓reduceIte, List.map, ne_eq, not_true_eq_false, g104, g105]
      refine hK _ _ ?_; clear hK K
      first | refine W_if (t := _) (by simp only [ev, upd, ↓reduceIte]; rfl) ?_ ?_ | refine W_cond (t := _) (by simp only [ev, upd, argf, Nat.reduceEqDiff, ↓reduceIte, reduceCtorEq]; rfl) ?_ ?_
      · intro hc
        have hjl : j < g.prods.length := by simpa using hc
        have hP4 := hP.ext h.ext
        have hall := hP4.all j j0 hjl
        have hleft := hsh.left _ (gp_mem j0 hjl)
        refine W_skip ?_; try simp only [thenQ]
        first | refine W_seq (W_block ?_) | refine W_block ?_
        first | refine W_regK ?_ | refine W_seq (W_regK ?_)
        intro K hK; simp (maxSteps := 1000000) (disch := omega) only [stn_new_isii, optH_some, BOps_nil, BOps_cons, Cont_eq, Bev, rd, ev, updO, upd, wantD, optK_some, optH_some, Nat.reduceEqDiff, ↓reduceIte, List.map, List.toList_toArray, inI_pos, Value.cells, Option.map_some, List.size_toArray, List.length_cons, List.length_nil, Nat.reduceAdd, Nat.zero_add, ixk25, hz44, ld44, st44, zc44, g103, g105, hall]
        have hEq := (Ext.refl H4).push (row 44 [.int .i64 (gp g j).left, .slice (ra j) (gp g j).rhs.length (rc j), .int .i64 (gp g j).ln, .int .i64 (gp g j).lk])
        have hq := get_new H4 (row 44 [.int .i64 (gp g j).left, .slice (ra j) (gp g j).rhs.length (rc j), .int .i64 (gp g j).ln, .int .i64 (gp g j).lk])
        have h5 := h.grow hEq
        have hb5 := hEq.get hb
        generalize hk1 : H4.size = pb at *
        generalize H4.push _ = H5 at *
        have q0 : ldc H5 ⟨pb, 0, none⟩ = some (.int .i64 (gp g j).left) := ldc_row hq 0
        refine hK _ _ ?_; clear hK K
        by_cases c3 : (gp g j).left = s - g.nt
        · have c3' : ((gp g j).left == s - (g.nt : Int)) = true := beq_iff_eq.2 c3
          first | refine W_regK ?_ | refine W_seq (W_regK ?_)
          intro K hK; simp (maxSteps := 1000000) (disch := omega) only [BOps_nil, BOps_cons, Cont_eq, Bev, rd, ev, updO, upd, wantD, bin, optK_some, Nat.reduceEqDiff, ↓reduceIte, List.map, ne_eq, not_true_eq_false, wrapi, Nat.add_zero, ld3, fld44_0, q0, g6, g8, c3']
          refine hK _ _ ?_; clear hK K
          first | refine W_seq (W_cond_t (by simp only [ev]) ?_) | refine W_cond_t (by simp only [ev, upd, ↓reduceIte]) ?_
          refine W_reg ?_; simp (maxSteps := 1000000) (disch := omega) only [BOps_cons, Cont_eq, Bev, rd, ev, updO, upd, wantD, optK_some, Nat.reduceEqDiff, ↓reduceIte, List.map, List.map_toArray, reduceCtorEq, List.append_toArray, List.append_nil, List.nil_append, g0, g1, bld68]
          refine (add_spec H0 H5 c cs R2 mb B2 rv2 h5 (a : Int) (by omega) (by omega) ⟨j, 0, a⟩ (by have := hgood.few hsh (a : Int).toNat; omega)).mono ?_
          rintro r H6 ⟨B6, rv6, h6, hsz, hfr⟩
          rw [Int.toNat_natCast] at h6
          obtain ⟨hb6, ho6⟩ := hfr xb _ hb5 ho2
          simp (maxSteps := 1000000) (disch := omega) only [BOps_nil, Cont_eq, updO]
          simp only [thenQ, blockQ]
          refine W_reg ?_; simp (maxSteps := 1000000) (disch := omega) only [BOps_nil, BOps_cons, Cont_eq, Bev, rd, ev, updO, upd, wantD, bin, optK_some, Nat.reduceEqDiff, ↓reduceIte, List.map, ne_eq, not_true_eq_false, wrapi, g105]
          simp only [thenQ]
          refine ⟨g.prods.length - (j + 1).toNat, by omega, j + 1, _, B6, rv6, by omega, by omega, rfl, by simp [upd, g0], by simp [upd, g1], by simp [upd, g4], by simp [upd, g5], by simp [upd, g6], by simp [upd, g8], by simp [upd, g103], by simp [upd, g104], by simp [upd], h6, ?_, hgr.trans (Gr.add _ _ _), ?_, hb6, ho6, ?_⟩
          · exact hgood.add (.pred (hI.good.cht a x hxm) hnx j0 hjl c3 c2) ⟨j0, hjl, Int.le_refl 0, Int.natCast_nonneg _, Int.natCast_nonneg _, show (a : Int) < 61 by omega⟩ (Int.le_refl _)
          · intro i h1 h2; rw [← hoth i h1 h2]; simp [addR, h1]
          · intro i i0 i1 hi
            by_cases e : i = j
            · subst e; exact mem_addR.2 (.inr ⟨rfl, rfl⟩)
            · exact mem_addR.2 (.inl (hpr i i0 (by omega) hi))
        · have c3' : ((gp g j).left == s - (g.nt : Int)) = false := beq_eq_false_iff_ne.2 c3
          first | refine W_regK ?_ | refine W_seq (W_regK ?_)
          intro K hK; simp (maxSteps := 1000000) (disch := omega) only [BOps_nil, BOps_cons, Cont_eq, Bev, rd, ev, updO, upd, wantD, bin, optK_some, Nat.reduceEqDiff, ↓reduceIte, List.map, ne_eq, not_true_eq_false, wrapi, Nat.add_zero, ld3, fld44_0, q0, g6, g8, c3']
          refine hK _ _ ?_; clear hK K
          first | refine W_seq (W_cond_f (by simp only [ev]) ?_) | refine W_cond_f (by simp only [ev, upd, ↓reduceIte]) ?_
          refine W_skip ?_; try simp only [thenQ, blockQ]
          refine W_reg ?_; simp (maxSteps := 1000000) (disch := omega) only [BOps_nil, BOps_cons, Cont_eq, Bev, rd, ev, updO, upd, wantD, bin, optK_some, Nat.reduceEqDiff, ↓reduceIte, List.map, ne_eq, not_true_eq_false, wrapi, g105]
          simp only [thenQ]
          refine ⟨g.prods.length - (j + 1).toNat, by omega, j + 1, R2, B2, rv2, by omega, by omega, rfl, by simp [upd, g0], by simp [upd, g1], by simp [upd, g4], by simp [upd, g5], by simp [upd, g6], by simp [upd, g8], by simp [upd, g103], by simp [upd, g104], by simp [upd], h5, hgood, hgr, hoth, hb5, ho2, ?_⟩
          intro i i0 i1 hi
          by_cases e : i = j
          · subst e; exact absurd hi c3
          · exact hpr i i0 (by omega) hi
      · intro hc
        have hge : j = g.prods.length := by simp at hc; omega
        subst hge
        refine W_exit ?_; simp only [thenQ, blockQ, ↓reduceIte]
        first | refine W_regK ?_ | refine W_seq (W_regK ?_)
        intro K hK; simp (maxSteps := 1000000) (disch := omega) only [BOps_cons, Cont_eq, Bev, rd, ev, updO, upd, wantD, bin, optK_some, Nat.reduceEqDiff, ↓reduceIte, List.map, List.map_toArray, ne_eq, not_true_eq_false, reduceCtorEq, wrapi, List.append_toArray, List.append_nil, List.nil_append, g0, g1, g6, g8]
        refine (ended_spec H0 H4 c cs R2 mb B2 rv2 g ks h hd' (s - g.nt) (a : Int) (by omega) (by omega) (fun y hy => hgood.ok _ y hy)).mono ?_
        rintro r H5 ⟨hE5, b, rfl, hbb⟩
        rw [Int.toNat_natCast] at hbb
        have h5 := h.grow hE5
        have hb5 := hE5.get hb
        simp (maxSteps := 1000000) (disch := omega) only [BOps_nil, Cont_eq, updO]
        refine hK _ _ ?_; clear hK K
        have hmono : ∀ R3, Good g ks R3 → Gr R2 R3 → Oth a R2 R3 → ((∃ y ∈ R2 a, Whole g (s - g.nt) a y) → adv x ∈ R3 a) → RowInv g ks R R3 a (n + 1) := by
          intro R3 q1 q2 q3 q4
          refine hI.step hx q1 (hgr.trans q2) (fun j h1 h2 => (q3 j h1 h2).trans (hoth j h1 h2)) ?_ ?_ ?_ ?_
          · intro s' hs' hge k k0 k1 hk; rw [hnx] at hs'; injection hs' with hs'; subst hs'; exact q2.mem (hpr k k0 k1 hk)
          · intro s' hs' h1 h3; rw [hnx] at hs'; injection hs' with hs'; subst hs'
            have hm : gi ks a ∈ ks := by rw [gi_nat _ _ h1]; exact List.getElem_mem h1
            have := (hd'.kn _ hm).2
            omega
          · intro hn; rw [hnx] at hn; cases hn
          · intro x' hx' hn hf hs'
            rw [hnx] at hs'; injection hs' with hs'
            refine q4 ⟨x', hgr.mem hx', hf, by omega, ?_⟩
            unfold nxt at hn; split at hn
            · assumption
            · cases hn
        first | refine W_if (t := _) (by simp only [ev]; rfl) ?_ ?_ | refine W_cond (t := _) (by simp only [ev, upd, ↓reduceIte]; rfl) ?_ ?_
        · intro hbt
          obtain ⟨x', hx', hw⟩ := hbb.1 hbt
          have hdb : x.d + 1 ≤ (gp g x.p).rhs.length := by
            have := hxo.d1
            unfold nxt at hnx; split at hnx
            · cases hnx
            · omega
          have hrl := hsh.rl _ (gp_mem hxo.p0 hxo.p1)
          have hd0 := hxo.d0
          have hx1 : ldc H5 ⟨xb, 1, none⟩ = some (.int .i64 x.d) := ldc_row hb5 1
          have hst : stn H5 ⟨xb, 1, none⟩ [.int .i64 (x.d + 1)] = some (H5.setIfInBounds xb (row 68 [.int .i64 x.p, .int .i64 (x.d + 1), .int .i64 x.f])) := by
            rw [stn_row hb5 (by simp) rfl]; rfl
          first | refine W_regK ?_ | refine W_seq (W_regK ?_)
          intro K hK; simp (maxSteps := 1000000) (disch := omega) only [optH_some, BOps_nil, BOps_cons, Cont_eq, Bev, rd, ev, updO, upd, wantD, bin, optK_some, optH_some, Nat.reduceEqDiff, ↓reduceIte, List.map, List.toList_toArray, ne_eq, not_true_eq_false, wrapi, Value.cells, List.size_toArray, List.length_cons, List.length_nil, Nat.zero_add, ld3, st3, fld68_1, hx1, hst, g5]
          have h6 := h5.setOff ho2 hxb0 (row 68 [.int .i64 x.p, .int .i64 (x.d + 1), .int .i64 x.f])
          have hb6 := get_set (lt_of_get hb5) (row 68 [.int .i64 x.p, .int .i64 (x.d + 1), .int .i64 x.f])
          generalize H5.setIfInBounds xb _ = H6 at *
          have hl6 : ldn H6 3 ⟨xb, 0, none⟩ = some [.int .i64 x.p, .int .i64 (x.d + 1), .int .i64 x.f] := by rw [ldn_row hb6]; rfl
          refine hK _ _ ?_; clear hK K
          refine W_reg ?_; simp (maxSteps := 1000000) (disch := omega) only [BOps_cons, Cont_eq, Bev, rd, ev, updO, upd, wantD, optK_some, Nat.reduceEqDiff, ↓reduceIte, List.map, List.map_toArray, reduceCtorEq, List.append_toArray, List.append_nil, List.nil_append, Option.map_some, ld68, g0, g1, g5, hl6]
          refine (add_spec H0 H6 c cs R2 mb B2 rv2 h6 (a : Int) (by omega) (by omega) (adv x) (by have := hgood.few hsh (a : Int).toNat; omega)).mono ?_
          rintro r H7 ⟨B7, rv7, h7, -, -⟩
          rw [Int.toNat_natCast] at h7
          simp (maxSteps := 1000000) (disch := omega) only [BOps_nil, Cont_eq, updO]
          simp only [thenQ, blockQ]
          refine W_goto ?_; simp only [jumpQ, true_and]
          have hwn : nxt g x' = none := by unfold nxt; rw [if_pos hw.2.2]
          have hgood' := hgood.add (i := a) (x := adv x) (.comp (x := x') (y := x) (hgood.cht a x' hx') hwn (by rw [hw.1]; exact hI.good.cht a x hxm) (by rw [hnx]; congr 1; have := hw.2.1; omega)) ⟨hxo.p0, hxo.p1, by simp only [adv]; omega, hdb, hxo.f0, hxo.f1⟩ (hI.good.fr a x hxm)
          exact ⟨101504 - (n + 1), by omega, n + 1, _, B7, rv7, rfl, by simp [upd, g0], by simp [upd, g1], by simp [upd, g4], h7, hmono _ hgood' (Gr.add _ _ _) (fun j hj _ => by simp [addR, hj]) (fun _ => mem_addR.2 (.inr ⟨rfl, rfl⟩))⟩
        · intro hbf
          refine W_skip ?_; try simp only [thenQ, blockQ]
          refine W_goto ?_; simp only [jumpQ, true_and]
          exact ⟨101504 - (n + 1), by omega, n + 1, R2, B2, rv2, rfl, by simp [upd, g0], by simp [upd, g1], by simp [upd, g4], h5, hmono R2 hgood (Gr.refl _) (fun j _ _ => rfl) (fun h => by have := hbb.2 h; rw [hbf] at this; simp at this)⟩
    · have c2' : decide (s ≥ (g.nt : Int)) = false := by simpa using c2
      first | refine W_regK ?_ | refine W_seq (W_regK ?_)
      intro K hK; simp (maxSteps := 1000000) (disch := omega) only [BOps_nil, BOps_cons, Cont_eq, Bev, rd, ev, updO, upd, wantD, bin, optK_some, Nat.reduceEqDiff, ↓reduceIte, List.map, ne_eq, not_true_eq_false, c2']
      refine hK _ _ ?_; clear hK K
      first | refine W_seq (W_cond_f (by simp only [ev]) ?_) | refine W_cond_f (by simp only [ev, upd, ↓reduceIte]) ?_
      have l5 : ldc H3 ⟨c, 5, none⟩ = some (.slice ak ks.length ck) := by rw [h.head 5 (by omega), hcs]; rfl
      have hmono : ∀ R2, Good g ks R2 → Gr R1 R2 → Oth a R1 R2 → (a < ks.length → gi ks a = s → adv x ∈ R2 (a + 1)) → RowInv g ks R R2 a (n + 1) := by
        intro R2 q1 q2 q3 q4
        refine hI.step hx q1 q2 q3 ?_ ?_ ?_ ?_
        · intro s' hs' hge; rw [hnx] at hs'; injection hs' with hs'; omega
        · intro s' hs' h1 h3; rw [hnx] at hs'; injection hs' with hs'; exact q4 h1 (by omega)
        · intro hn; rw [hnx] at hn; cases hn
        · intro x' hx' _ _ hn
          rw [hnx] at hn; injection hn with hn
          have := (hsh.left _ (gp_mem (hI.good.ok a x' hx').p0 (hI.good.ok a x' hx').p1)).1
          omega
      by_cases c3 : a < ks.length
      rotate_left
      · have c3' : decide ((a : Int) < ks.length) = false := by simpa using c3
        first | refine W_regK ?_ | refine W_seq (W_regK ?_)
        intro K hK; simp (maxSteps := 1000000) (disch := omega) only [BOps_nil, BOps_cons, Cont_eq, Bev, rd, rdB, ev, updO, upd, wantD, List.getElem?_cons_succ, List.getElem?_cons_zero, vft, bin, optK_some, lenV, Nat.reduceEqDiff, ↓reduceIte, List.map, ne_eq, not_true_eq_false, reduceCtorEq, Bool.false_eq_true, Nat.zero_add, u28, ld28, fld66_1, g0, g1, l5, c3']
        refine hK _ _ ?_; clear hK K
        first | refine W_seq (W_cond_f (by simp only [ev]) ?_) | refine W_cond_f (by simp only [ev, upd, ↓reduceIte]) ?_
        refine W_skip ?_; try simp only [thenQ, blockQ]
        refine W_goto ?_; simp only [jumpQ, true_and]
        exact ⟨101504 - (n + 1), by omega, n + 1, R1, B1, rv1, rfl, by simp [upd, g0], by simp [upd, g1], by simp [upd], h, hmono R1 hI.good (Gr.refl R1) (fun j _ _ => rfl) (fun h => absurd h c3)⟩
      have c3' : decide ((a : Int) < ks.length) = true := by simpa using c3
      obtain ⟨bk, ok, ck', ek, -, hkk⟩ := (RdI.ext h.ext hk).opn (by omega)
      injection ek with ek _ _
      subst ek
      have hka := hkk a (by omega) (by omega)
      rw [Int.toNat_natCast, Nat.mul_one] at hka
      by_cases c4 : gi ks a = s
      rotate_left
      · have c4' : (gi ks a == s) = false := beq_eq_false_iff_ne.2 c4
        first | refine W_regK ?_ | refine W_seq (W_regK ?_)
        intro K hK; simp (maxSteps := 1000000) (disch := omega) only [BOps_nil, BOps_cons, Cont_eq, Bev, rd, rdB, ev, updO, upd, wantD, List.getElem?_cons_succ, List.getElem?_cons_zero, vtt, bin, optK_some, lenV, Nat.reduceEqDiff, ↓reduceIte, List.map, ne_eq, not_true_eq_false, reduceCtorEq, inI_pos, Nat.zero_add, ld3, u28, ld28, ixk28, fld66_1, g0, g1, l5, c3', hka, c4', Int.toNat_natCast, Nat.mul_one]
        refine hK _ _ ?_; clear hK K
        first | refine W_seq (W_cond_f (by simp only [ev]) ?_) | refine W_cond_f (by simp only [ev, upd, ↓reduceIte]) ?_
        refine W_skip ?_; try simp only [thenQ, blockQ]
        refine W_goto ?_; simp only [jumpQ, true_and]
        exact ⟨101504 - (n + 1), by omega, n + 1, R1, B1, rv1, rfl, by simp [upd, g0], by simp [upd, g1], by simp [upd], h, hmono R1 hI.good (Gr.refl R1) (fun j _ _ => rfl) (fun _ h => absurd h c4)⟩
      have c4' : (gi ks a == s) = true := beq_iff_eq.2 c4
      first | refine W_regK ?_ | refine W_seq (W_regK ?_)
      intro K hK; simp (maxSteps := 1000000) (disch := omega) only [BOps_nil, BOps_cons, Cont_eq, Bev, rd, rdB, ev, updO, upd, wantD, List.getElem?_cons_succ, List.getElem?_cons_zero, vtt, bin, optK_some, lenV, Nat.reduceEqDiff, ↓reduceIte, List.map, ne_eq, not_true_eq_false, reduceCtorEq, inI_pos, Nat.zero_add, ld3, u28, ld28, ixk28, fld66_1, g0, g1, l5, c3', hka, c4', Int.toNat_natCast, Nat.mul_one]
      refine hK _ _ ?_; clear hK K
      first | refine W_seq (W_cond_t (by simp only [ev]) ?_) | refine W_cond_t (by simp only [ev, upd, ↓reduceIte]) ?_
      have hdb : x.d + 1 ≤ (gp g x.p).rhs.length := by
        have := hxo.d1
        unfold nxt at hnx; split at hnx
        · cases hnx
        · omega
      have hrl := hsh.rl _ (gp_mem hxo.p0 hxo.p1)
      have hd0 := hxo.d0
      have hst : stn H3 ⟨xb, 1, none⟩ [.int .i64 (x.d + 1)] = some (H3.setIfInBounds xb (row 68 [.int .i64 x.p, .int .i64 (x.d + 1), .int .i64 x.f])) := by
        rw [stn_row hb (by simp) rfl]; rfl
      first | refine W_regK ?_ | refine W_seq (W_regK ?_)
      intro K hK; simp (maxSteps := 1000000) (disch := omega) only [optH_some, BOps_nil, BOps_cons, Cont_eq, Bev, rd, ev, updO, upd, wantD, bin, optK_some, optH_some, Nat.reduceEqDiff, ↓reduceIte, List.map, List.toList_toArray, ne_eq, not_true_eq_false, wrapi, Value.cells, List.size_toArray, List.length_cons, List.length_nil, Nat.zero_add, ld3, st3, fld68_1, hx1, hst]
      have h4 := h.setOff ho2 hxb0 (row 68 [.int .i64 x.p, .int .i64 (x.d + 1), .int .i64 x.f])
      have hb4 := get_set (lt_of_get hb) (row 68 [.int .i64 x.p, .int .i64 (x.d + 1), .int .i64 x.f])
      generalize H3.setIfInBounds xb _ = H4 at *
      have hl4 : ldn H4 3 ⟨xb, 0, none⟩ = some [.int .i64 x.p, .int .i64 (x.d + 1), .int .i64 x.f] := by rw [ldn_row hb4]; rfl
      refine hK _ _ ?_; clear hK K
      refine W_reg ?_; simp (maxSteps := 1000000) (disch := omega) only [BOps_cons, Cont_eq, Bev, rd, ev, updO, upd, wantD, bin, optK_some, Nat.reduceEqDiff, ↓reduceIte, List.map, List.map_toArray, ne_eq, not_true_eq_false, reduceCtorEq, wrapi, List.append_toArray, List.append_nil, List.nil_append, Option.map_some, ld68, g0, g1, hl4]
      refine (add_spec H0 H4 c cs R1 mb B1 rv1 h4 ((a : Int) + 1) (by omega) (by omega) (adv x) (by have := hI.good.few hsh ((a : Int) + 1).toNat; omega)).mono ?_
      rintro r H5 ⟨B5, rv5, h5, -, -⟩
      simp (maxSteps := 1000000) (disch := omega) only [BOps_nil, Cont_eq, updO]
      simp only [thenQ, blockQ]
      refine W_goto ?_; simp only [jumpQ, true_and]
      have ea : ((a : Int) + 1).toNat = a + 1 := by omega
      rw [ea] at h5
      have hgood := hI.good.add (i := a + 1) (x := adv x) (.scan (hI.good.cht a x hxm) hnx c3 c4) ⟨hxo.p0, hxo.p1, by simp only [adv]; omega, hdb, hxo.f0, hxo.f1⟩ (by have := hI.good.fr a x hxm; simp only [adv]; omega)
      exact ⟨101504 - (n + 1), by omega, n + 1, _, B5, rv5, rfl, by simp [upd, g0], by simp [upd, g1], by simp [upd], h5, hmono _ hgood (Gr.add _ _ _) (fun j _ hj => by simp [addR, hj]) (fun _ _ => mem_addR.2 (.inr ⟨rfl, rfl⟩))⟩
end Go.Proofs.Yteheedbhmggcgaa
