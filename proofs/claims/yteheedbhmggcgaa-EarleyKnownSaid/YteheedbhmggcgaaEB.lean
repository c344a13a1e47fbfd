import Derived.Test.YteheedbhmggcgaaEA
namespace Go.Proofs.Yteheedbhmggcgaa
open Go Go.Vy Go.Proofs
set_option linter.unusedSimpArgs false
set_option linter.unusedVariables false
def addR (R : Nat → List It) (i : Nat) (x : It) : Nat → List It := fun j => if j = i then (if x ∈ R i then R i else R i ++ [x]) else R j
theorem aget_items (x : It) : ∀ l : List It, aget (l.map fun x => (x, Value.bool true)) x = if x ∈ l then some (.bool true) else none
  | [] => by simp [aget]
  | y :: l => by
    simp only [List.map_cons, aget, aget_items x l, List.mem_cons]
    by_cases h : x = y <;> simp [h]
theorem frm_pre (B : Option Nat) : Pre (fun a b => Frm a b B) := ⟨fun _ _ h => h.size, fun _ _ _ h k => ⟨Nat.le_trans h.size k.size, fun b hb hn => (k.blk b (Nat.lt_of_lt_of_le hb h.size) hn).trans (h.blk b hb hn)⟩, fun _ _ h => ⟨h.size, fun b hb _ => h.blk b hb⟩⟩
def PhiA (c : Nat) (at_ : Int) (x : It) (w : Value) (l : List It) (B : Option Nat) (S : Nat) : Fact
  | 0, v, _, _, _ | 2, v, _, _, _ | 4, v, _, _, _ | 11, v, _, _, _ => v = .pointer (some ⟨c, 0, none⟩)
  | 1, v, _, _, _ | 3, v, _, _, _ => v = .int .i64 at_
  | 5, v, _, _, _ | 12, v, _, _, _ => v = .pointer (some ⟨c, 6, none⟩)
  | 6, v, _, _, _ => v = .pointer (some ⟨c, 6 + at_.toNat, none⟩)
  | 7, v, _, _, _ => v = w
  | 8, v, _, _, _ => v = .agg #[.int .i64 x.p, .int .i64 x.d, .int .i64 x.f]
  | 9, v, _, _, H => ∃ nb, S ≤ nb ∧ v = .slice (some ⟨nb, 0, none⟩) 1 1 ∧ H[nb]? = some (row 68 x.cells)
  | 10, v, _, _, H => ∃ B', Own H v 68 3 (l.length + 1) (l.flatMap It.cells ++ x.cells) B' ∧ (B' = B ∨ ∃ b, S ≤ b ∧ B' = some b)
  | _, _, _, _, _ => True
theorem bld62 (a b c : Int) : bld (fun i => some (i * 3, 3)) (rep 1 [Value.int .i64 0, .int .i64 0, .int .i64 0]) [(0, .agg #[.int .i64 a, .int .i64 b, .int .i64 c])] = some [.int .i64 a, .int .i64 b, .int .i64 c] := by
  simp [bld, rep, Builtin.zeroCells, ow, Value.cells, Array.range]
set_option maxRecDepth 100000 in
theorem add_spec (H0 H : Hp) (c : Nat) (cs : List Value) (R : Nat → List It) (mb : Nat → Nat) (B : Nat → Option Nat) (rv : Nat → Value) (h : Ch H0 H c cs R mb B rv) (at_ : Int) (ha : 0 ≤ at_) (ha1 : at_ < 61) (x : It) (hlen : (R at_.toNat).length ≤ 2 ^ 20) :
    CallsV Try.prog 34 [.pointer (some ⟨c, 0, none⟩), .int .i64 at_, .agg #[.int .i64 x.p, .int .i64 x.d, .int .i64 x.f]].toArray H (fun r H' => ∃ B' rv', Ch H0 H' c cs (addR R at_.toNat x) mb B' rv' ∧ H.size ≤ H'.size ∧ ∀ b y, H[b]? = some y → Off c mb B b → H'[b]? = some y ∧ Off c mb B' b) := by
  refine calls_W (m := 36) Try.call34 Try.func34 rfl rfl (by decide +kernel) (by simp) ?_
  first | refine W_regK ?_ | refine W_seq (W_regK ?_)
  intro K hK; simp (maxSteps := 1000000) (disch := omega) only [BOps_nil, BOps_cons, Cont_eq, Bev, ev, updO, wantD, argf, ↓reduceIte, List.map, List.toList_toArray, Value.cells]
  have hE := (Ext.refl H).push (row 68 [.int .i64 x.p, .int .i64 x.d, .int .i64 x.f])
  have hb := get_new H (row 68 [.int .i64 x.p, .int .i64 x.d, .int .i64 x.f])
  have h1 := h.grow hE
  have hoff := h.new (Nat.le_refl H.size)
  generalize hk0 : H.size = xb at *
  generalize H.push _ = H1 at *
  have l3 : ldn H1 3 ⟨xb, 0, none⟩ = some [.int .i64 x.p, .int .i64 x.d, .int .i64 x.f] := by rw [ldn_row hb]; rfl
  have hlm := h1.map at_ ha ha1
  have hm := h1.maps at_.toNat (by omega)
  have hlk := lkp_mobj (ok := false) key68 u61 hz4 hm x
  rw [aget_items] at hlk
  refine hK _ _ ?_; clear hK K
  by_cases hxm : x ∈ R at_.toNat
  · have hlk : lkp Try.prog 61 (.map (some (mb at_.toNat))) (.agg #[.int .i64 x.p, .int .i64 x.d, .int .i64 x.f]) false H1 = some (.bool true) := by
      have := hlk; rw [if_pos hxm] at this; exact this
    first | refine W_drawK mixed (by decide +kernel) ?_ | refine W_seq (W_drawK mixed (by decide +kernel) ?_)
    intro K hK; simp (maxSteps := 1000000) (disch := omega) only [optQ_some, QOps_nil, QOps_cons, QCont_eq, QBev, rq, rd, ev, updO, upd, wantD, Bool.not_true, argf, Nat.reduceEqDiff, ↓reduceIte, List.map, reduceCtorEq, inI_pos, Option.map_some, Nat.zero_add, ld61, ixk64, fld66_3, ld68, hlm, l3, hlk]
    refine hK _ ?_; clear hK K
    first | refine W_seq (W_cond_f (by simp only [ev]) ?_) | refine W_cond_f (by simp only [ev, upd, ↓reduceIte]) ?_
    refine W_skip ?_; try simp only [thenQ, blockQ, jumpQ]
    simp only [retQ, Try.results34, resV0, Option.some.injEq, exists_eq_left', List.toList_toArray]
    have e : addR R at_.toNat x = R := by funext j; simp only [addR, if_pos hxm]; split; (rename_i hj; rw [hj]); rfl
    rw [e]
    exact ⟨B, rv, h1, by rw [← hk0]; exact hE.size, fun b y hy ho => ⟨hE.get hy, ho⟩⟩
  have hlk : lkp Try.prog 61 (.map (some (mb at_.toNat))) (.agg #[.int .i64 x.p, .int .i64 x.d, .int .i64 x.f]) false H1 = some (.bool false) := by
    have := hlk; rw [if_neg hxm] at this; exact this.trans (by simp [lkv, zv4])
  first | refine W_drawK mixed (by decide +kernel) ?_ | refine W_seq (W_drawK mixed (by decide +kernel) ?_)
  intro K hK; simp (maxSteps := 1000000) (disch := omega) only [optQ_some, QOps_nil, QOps_cons, QCont_eq, QBev, rq, rd, ev, updO, upd, wantD, Bool.not_false, argf, Nat.reduceEqDiff, ↓reduceIte, List.map, reduceCtorEq, inI_pos, Option.map_some, Nat.zero_add, ld61, ixk64, fld66_3, ld68, hlm, l3, hlk]
  refine hK _ ?_; clear hK K
  first | refine W_seq (W_cond_t (by simp only [ev]) ?_) | refine W_cond_t (by simp only [ev, upd, ↓reduceIte]) ?_
  first | refine W_chainK 7 mixed (by decide +kernel) (by decide +kernel) ?_ | refine W_seq (W_chainK 7 mixed (by decide +kernel) (by decide +kernel) ?_)
  intro K hK; simp (maxSteps := 1000000) (disch := omega) only [List.take_succ_cons, List.take_zero, List.drop_succ_cons, List.drop_zero, optQ_some, QOps_nil, QOps_cons, QCont_eq, QBev, rq, BOps_cons, Bev, rd, ev, updO, upd, wantD, argf, Nat.reduceEqDiff, ↓reduceIte, List.map, reduceCtorEq, inI_pos, Option.map_some, Nat.zero_add, ld61, ixk64, fld66_3, ld68, hlm, l3]
  refine mapPut_mobj key68 u61 hm x ?_
  rw [aput_none (by rw [aget_items, if_neg hxm])]
  have hnm : (R at_.toNat).map (fun x => (x, Value.bool true)) ++ [(x, .bool true)] = (R at_.toNat ++ [x]).map fun x => (x, Value.bool true) := by simp
  rw [hnm]
  have h2m := get_set (lt_of_get hm) (mobj encIt ((R at_.toNat ++ [x]).map fun x => (x, Value.bool true)))
  have h2o : ∀ b, b ≠ mb at_.toNat → (H1.setIfInBounds (mb at_.toNat) (mobj encIt ((R at_.toNat ++ [x]).map fun x => (x, Value.bool true))))[b]? = H1[b]? := fun b hb => get_set_ne (fun e => hb e.symm) _
  have h2s : (H1.setIfInBounds (mb at_.toNat) (mobj encIt ((R at_.toNat ++ [x]).map fun x => (x, Value.bool true)))).size = H1.size := by simp
  have hEx : Ext H0 (H1.setIfInBounds (mb at_.toNat) (mobj encIt ((R at_.toNat ++ [x]).map fun x => (x, Value.bool true)))) := h1.ext.set (h1.hm _ (by omega)).1 _
  generalize H1.setIfInBounds (mb at_.toNat) _ = H2 at *
  simp (maxSteps := 1000000) (disch := omega) only [BOps_nil, Cont_eq, updO]
  refine hK _ _ ?_; clear hK K
  generalize hi : at_.toNat = i at *
  have hi61 : i < 61 := by omega
  have hBc : ∀ b, B i = some b → b ≠ c := fun b e => (h1.hB i hi61 b e).2
  have hown := h1.own i hi61
  have hBm : ∀ b, B i = some b → b ≠ mb i := fun b e e2 => h1.dBm i i hi61 hi61 (by rw [e, e2])
  have hown2 : Own H2 (rv i) 68 3 (R i).length ((R i).flatMap It.cells) (B i) := hown.keep fun b e => h2o b (hBm b e)
  have hcm : c ≠ mb i := fun e => (h1.hm i hi61).2 e.symm
  obtain ⟨lc, hlc, hlc1, hlc2, hlc3, hlc4⟩ := h1.cb
  have hc2 : H2[c]? = some (row 66 lc) := by rw [h2o c hcm]; exact hlc
  have hxb1 := hoff.1
  have hxb2 := hoff.2.1 i hi61
  have hxb3 := hoff.2.2 i hi61
  have hx2 : H2[xb]? = some (row 68 x.cells) := by rw [h2o xb (fun e => hxb2 e.symm)]; exact hb
  have hcB : ∀ {Ha Hb : Hp}, Frm Ha Hb (B i) → Ha[c]? = some (row 66 lc) → Hb[c]? = some (row 66 lc) := fun f e => f.get e (fun e2 => hBc c e2 rfl)
  have hat61 : at_.toNat < 61 := by omega
  refine W_par 13 10 (fun a b => Frm a b (B i)) (PhiA c at_ x (rv i) (R i) (B i) H2.size) mixed (by decide +kernel) (frm_pre _) ?_ ?_ ?_
  · intro k v lo hi Hx Hy hx hp
    match k, hp with
    | 0, hp | 1, hp | 2, hp | 3, hp | 4, hp | 5, hp | 6, hp | 7, hp | 8, hp | 11, hp | 12, hp => exact hp
    | 9, hp =>
      obtain ⟨nb, h1, h2, h3⟩ := hp
      have hx : Frm Hx Hy (B i) := hx
      refine ⟨nb, h1, h2, hx.get h3 fun e => ?_⟩
      have := hown2.lt nb e; omega
    | 10, hp =>
      obtain ⟨B', h1, h2⟩ := hp
      have hx : Ext Hx Hy := hx
      exact ⟨B', h1.keep fun b e => hx.blk b (h1.lt b e), h2⟩
    | k + 13, hp => trivial
  · simp only [ParSteps, List.take_succ_cons, List.take_zero]
    refine ⟨?_, ?_, ?_, ?_, ?_, ?_, ?_, ?_, ?_, ?_, ?_, ?_, ?_, trivial⟩
    · intro f1 Hy hx hout hdep; simp [depsOf, Region.binds, DepFacts] at hdep
      have e0 : f1 0 = .pointer (some ⟨c, 0, none⟩) := by rw [hout 0 (by decide +kernel)]; simp [upd, argf]
      simp (maxSteps := 1000000) (disch := omega) only [wantB, Bev, rd, ev, optK_some, ↓reduceIte, reduceCtorEq, and_true, e0, PhiA]
      exact .refl _
    · intro f1 Hy hx hout hdep; simp [depsOf, Region.binds, DepFacts] at hdep
      have e1 : f1 1 = .int .i64 at_ := by rw [hout 1 (by decide +kernel)]; simp [upd, argf]
      simp (maxSteps := 1000000) (disch := omega) only [wantB, Bev, rd, ev, optK_some, Nat.reduceEqDiff, ↓reduceIte, and_true, Nat.zero_add, e1, PhiA]
      exact .refl _
    · intro f1 Hy hx hout hdep; simp [depsOf, Region.binds, DepFacts] at hdep
      have e0 : f1 0 = .pointer (some ⟨c, 0, none⟩) := by rw [hout 0 (by decide +kernel)]; simp [upd, argf]
      simp (maxSteps := 1000000) (disch := omega) only [wantB, Bev, rd, ev, optK_some, Nat.reduceEqDiff, ↓reduceIte, and_true, Nat.reduceAdd, Nat.zero_add, e0, PhiA]
      exact .refl _
    · intro f1 Hy hx hout hdep; simp [depsOf, Region.binds, DepFacts] at hdep
      have e1 : f1 1 = .int .i64 at_ := by rw [hout 1 (by decide +kernel)]; simp [upd, argf]
      simp (maxSteps := 1000000) (disch := omega) only [wantB, Bev, rd, ev, optK_some, Nat.reduceEqDiff, ↓reduceIte, and_true, Nat.reduceAdd, Nat.zero_add, e1, PhiA]
      exact .refl _
    · intro f1 Hy hx hout hdep; simp [depsOf, Region.binds, DepFacts, factAt, dstAt, PhiA] at hdep
      simp (maxSteps := 1000000) (disch := omega) only [wantB, Bev, rd, ev, optK_some, Nat.reduceEqDiff, ↓reduceIte, and_true, Nat.reduceAdd, Nat.zero_add, hdep, PhiA]
      exact .refl _
    · intro f1 Hy hx hout hdep; simp [depsOf, Region.binds, DepFacts, factAt, dstAt, PhiA] at hdep
      simp (maxSteps := 1000000) (disch := omega) only [wantB, Bev, rd, ev, optK_some, Nat.reduceEqDiff, ↓reduceIte, and_true, Nat.reduceAdd, Nat.zero_add, fld66_2, hdep, PhiA]
      exact .refl _
    · intro f1 Hy hx hout hdep; simp [depsOf, Region.binds, DepFacts, factAt, dstAt, PhiA] at hdep
      simp (maxSteps := 1000000) (disch := omega) only [wantB, Bev, rd, ev, optK_some, Nat.reduceEqDiff, ↓reduceIte, inI_pos, and_true, Nat.reduceAdd, Nat.zero_add, ixk63, hdep.1, hdep.2, PhiA, Nat.mul_one]
      exact .refl _
    · intro f1 Hy hx hout hdep; simp [depsOf, Region.binds, DepFacts, factAt, dstAt, PhiA] at hdep
      have hx : Frm H2 Hy (B i) := hx
      have lr : ldc Hy ⟨c, 6 + at_.toNat, none⟩ = some (rv i) := by rw [hi, ldc_row (hcB hx hc2), hlc3 i hi61]
      simp (maxSteps := 1000000) (disch := omega) only [wantB, Bev, rd, ev, optK_some, Nat.reduceEqDiff, ↓reduceIte, and_true, Nat.reduceAdd, Nat.zero_add, ld62, hdep, PhiA, lr]
      exact .refl _
    · intro f1 Hy hx hout hdep; simp [depsOf, Region.binds, DepFacts] at hdep
      have hx : Frm H2 Hy (B i) := hx
      have e5 : f1 5 = .pointer (some ⟨xb, 0, none⟩) := by rw [hout 5 (by decide +kernel)]; simp [upd]
      have lr : ldn Hy 3 ⟨xb, 0, none⟩ = some [.int .i64 x.p, .int .i64 x.d, .int .i64 x.f] := by rw [ldn_row (hx.get hx2 (fun e => hxb3 e))]; rfl
      simp (maxSteps := 1000000) (disch := omega) only [wantB, Bev, rd, ev, optK_some, Nat.reduceEqDiff, ↓reduceIte, and_true, Option.map_some, Nat.reduceAdd, Nat.zero_add, ld68, e5, PhiA, lr]
      exact .refl _
    · intro f1 Hy hx hout hdep; simp [depsOf, Region.binds, DepFacts, factAt, dstAt, PhiA] at hdep
      have hx : Frm H2 Hy (B i) := hx
      simp (maxSteps := 1000000) (disch := omega) only [wantB, Bev, ev, Nat.reduceEqDiff, ↓reduceIte, List.map, ne_eq, not_false_eq_true, reduceCtorEq, true_and, List.length_cons, List.length_nil, Nat.reduceAdd, Nat.reduceMul, Nat.zero_add, slT62, hz68, zc68, hdep, PhiA, bslK, bld62]
      exact ⟨by omega, _, rfl, (Ext.refl _).push _, Hy.size, hx.size, rfl, get_new _ _⟩
    · intro f1 Hy hx hout hdep; simp [depsOf, Region.binds, DepFacts, factAt, dstAt, PhiA] at hdep
      have hx : Ext H2 Hy := hx
      obtain ⟨hd, nb, hnb, hv, hrow⟩ := hdep
      simp (maxSteps := 1000000) (disch := omega) only [wantB, Bev, ev, ↓reduceIte, List.map, Nat.reduceAdd, Nat.zero_add, u62, PhiA, hd, hv]
      have hs := hown2.keep fun b e => hx.blk b (hown2.lt b e)
      have hc : cellsOfSl Hy 3 (.slice (some ⟨nb, 0, none⟩) 1 1) = some (1, x.cells) := by simp [cellsOfSl, hrow, row, It.cells]
      refine appK_own slT62 hs hc rfl ?_ hz68 rfl ?_ ?_ ?_
      · intro y hy
        simp [It.cells] at hy
        rcases hy with rfl | rfl | rfl <;> rfl
      · omega
      · omega
      intro v' H' B' ho hf hB
      refine ⟨hf, B', ho, ?_⟩
      rcases hB with rfl | rfl
      · exact .inl rfl
      · exact .inr ⟨_, hx.size, rfl⟩
    · intro f1 Hy hx hout hdep; simp [depsOf, Region.binds, DepFacts, factAt, dstAt, PhiA] at hdep
      simp (maxSteps := 1000000) (disch := omega) only [wantB, Bev, rd, ev, optK_some, Nat.reduceEqDiff, ↓reduceIte, and_true, Nat.reduceAdd, Nat.zero_add, hdep, PhiA]
      exact .refl _
    · intro f1 Hy hx hout hdep; simp [depsOf, Region.binds, DepFacts, factAt, dstAt, PhiA] at hdep
      simp (maxSteps := 1000000) (disch := omega) only [wantB, Bev, rd, ev, optK_some, Nat.reduceEqDiff, ↓reduceIte, and_true, Nat.reduceAdd, Nat.zero_add, fld66_2, hdep, PhiA]
      exact .refl _
  · intro f1 Hy lo hi2 hx hout hf hdis
    have hf10 := (hf 10 (by omega)).1
    have hf12 := (hf 12 (by omega)).1
    have hf1 := (hf 1 (by omega)).1
    simp [factAt, dstAt, PhiA] at hf10 hf12 hf1
    have hx : Frm H2 Hy (B i) := hx
    obtain ⟨B', ho, hB'⟩ := hf10
    have e32 : ∃ a n cc, f1 32 = .slice a n cc := by
      obtain ⟨_, ⟨_, e, _⟩ | ⟨k, cap, sp, _, e, _⟩⟩ := ho
      · exact ⟨_, _, _, e⟩
      · exact ⟨_, _, _, e⟩
    obtain ⟨a, n, cc, e32⟩ := e32
    rw [e32] at ho
    have hcy := hcB hx hc2
    have hs : stn Hy ⟨c, 6 + at_.toNat * 1, none⟩ [.slice a n cc] = some (Hy.setIfInBounds c (row 66 (lc.set (6 + i) (.slice a n cc)))) := by
      rw [stn_row hcy (by simp; omega) rfl, Nat.mul_one, hi, ow_one (by omega)]
    simp only [List.drop_succ_cons, List.drop_zero]
    simp (maxSteps := 1000000) (disch := omega) only [optH_some, BOps_nil, BOps_cons, Cont_eq, Bev, rd, ev, updO, upd, wantD, optK_some, optH_some, Nat.reduceEqDiff, ↓reduceIte, List.map, List.toList_toArray, inI_pos, Value.cells, List.size_toArray, List.length_cons, List.length_nil, Nat.zero_add, st62, ixk63, e32, hf12, hf1, hs]
    simp only [retQ, Try.results34, resV0, Option.some.injEq, exists_eq_left', List.toList_toArray]
    have hnc : ∀ b, B' = some b → b ≠ c := by
      intro b e
      rcases hB' with e2 | ⟨b2, h2, e2⟩
      · exact hBc b (by rw [← e2, e])
      · rw [e2] at e; injection e with e; have := lt_of_get hlc; omega
    have hfs : (Hy.setIfInBounds c (row 66 (lc.set (6 + i) (.slice a n cc)))).size = Hy.size := by simp
    have hfc := get_set (lt_of_get hcy) (row 66 (lc.set (6 + i) (.slice a n cc)))
    have hfo : ∀ b, b ≠ c → (Hy.setIfInBounds c (row 66 (lc.set (6 + i) (.slice a n cc))))[b]? = Hy[b]? := fun b hb => get_set_ne (fun e => hb e.symm) _
    have hEf : Ext H0 (Hy.setIfInBounds c (row 66 (lc.set (6 + i) (.slice a n cc)))) := (Ext.frm hEx hx fun b e => (h1.hB i hi61 b e).1).set h1.hc _
    generalize Hy.setIfInBounds c _ = Hf at *
    have same : ∀ b, b < H1.size → b ≠ c → B i ≠ some b → b ≠ mb i → Hf[b]? = H1[b]? := by
      intro b hb h1 h2 h3
      rw [hfo b h1, hx.blk b (by omega) h2, h2o b h3]
    have hlt : ∀ j, j < 61 → ∀ b, B j = some b → b < H1.size := fun j hj b e => (h1.own j hj).lt b e
    have hmlt : ∀ j, j < 61 → mb j < H1.size := fun j hj => lt_of_get (h1.maps j hj)
    have hBs : ∀ b, B' = some b → H0.size ≤ b := by
      intro b e
      rcases hB' with e2 | ⟨b2, h2, e2⟩
      · exact (h1.hB i hi61 b (by rw [← e2, e])).1
      · rw [e2] at e; injection e with e; have := h1.ext.size; omega
    have hBo : ∀ j, j < 61 → j ≠ i → ∀ b, B' = some b → B j ≠ some b := by
      intro j hj hne b e e3
      rcases hB' with e2 | ⟨b2, h2, e2⟩
      · exact h1.dB i j hi61 hj (fun e => hne e.symm) b (by rw [← e2, e]) e3
      · rw [e2] at e; injection e with e; have := hlt j hj b e3; omega
    have hBmm : ∀ j, j < 61 → B' ≠ some (mb j) := by
      intro j hj e
      rcases hB' with e2 | ⟨b2, h2, e2⟩
      · exact h1.dBm i j hi61 hj (by rw [← e2, e])
      · rw [e2] at e; injection e with e; have := hmlt j hj; omega
    have hR : addR R i x i = R i ++ [x] := by simp [addR, hxm]
    refine ⟨fun j => if j = i then B' else B j, fun j => if j = i then .slice a n cc else rv j, ⟨hEf, h1.hc, ⟨_, hfc, by simpa using hlc1, ?_, ?_, ?_⟩, ?_, ?_, ?_, h1.hm, h1.dm, ?_, ?_, ?_⟩, ?_, ?_⟩
    · intro j hj; rw [List.getElem?_set, if_neg (by omega)]; exact hlc2 j hj
    · intro j hj
      rw [List.getElem?_set]
      by_cases e : j = i
      · subst e; simp; omega
      · rw [if_neg (by omega)]; simp only [if_neg e]; exact hlc3 j hj
    · intro j hj; rw [List.getElem?_set, if_neg (by omega)]; exact hlc4 j hj
    · intro j hj
      by_cases e : j = i
      · subst e
        simp only [if_true]
        rw [hR]
        have ho2 := ho.keep (H' := Hf) fun b e => hfo b (hnc b e)
        simpa using ho2
      · simp only [if_neg e, addR]
        refine (h1.own j hj).keep fun b eb => same b (hlt j hj b eb) (h1.hB j hj b eb).2 (h1.dB j i hj hi61 e b eb) (fun e2 => h1.dBm j i hj hi61 (by rw [eb, e2]))
    · intro j hj b eb
      by_cases e : j = i
      · simp only [if_pos e] at eb; exact ⟨hBs b eb, hnc b eb⟩
      · simp only [if_neg e] at eb; exact h1.hB j hj b eb
    · intro j k hj hk hne b eb
      by_cases e : j = i
      · simp only [if_pos e] at eb
        rw [if_neg (fun e2 => hne (e.trans e2.symm))]
        exact hBo k hk (fun e2 => hne (e.trans e2.symm)) b eb
      · simp only [if_neg e] at eb
        by_cases e2 : k = i
        · rw [if_pos e2]; exact fun e3 => hBo j hj e b e3 eb
        · rw [if_neg e2]; exact h1.dB j k hj hk hne b eb
    · intro j k hj hk
      by_cases e : j = i
      · simp only [if_pos e]; exact hBmm k hk
      · simp only [if_neg e]; exact h1.dBm j k hj hk
    · intro j hj
      by_cases e : j = i
      · subst e
        rw [hR, hfo _ (fun e => hcm e.symm), hx.blk _ (by have := hmlt j hj; omega) (h1.dBm j j hj hj)]; exact h2m
      · simp only [addR, if_neg e]
        rw [same _ (hmlt j hj) (h1.hm j hj).2 (h1.dBm i j hi61 hj) (h1.dm j i hj hi61 e)]; exact h1.maps j hj
    · intro j hj
      by_cases e : j = i
      · subst e
        rw [hR, List.nodup_append]
        refine ⟨h1.nd j hj, by simp, ?_⟩
        intro y hy z hz e; simp at hz; subst hz; subst e; exact hxm hy
      · simp only [addR, if_neg e]; exact h1.nd j hj
    · have := hE.size; have := hx.size; omega
    · intro b y hy ho
      have hb1 := hE.get hy
      have hbl := lt_of_get hb1
      refine ⟨by rw [same b hbl ho.1 (ho.2.2 i hi61) (fun e => ho.2.1 i hi61 e.symm)]; exact hb1, ho.1, ho.2.1, fun j hj => ?_⟩
      by_cases e : j = i
      · simp only [if_pos e]
        intro eb
        rcases hB' with e2 | ⟨b2, h2, e2⟩
        · exact ho.2.2 i hi61 (by rw [← e2, eb])
        · rw [e2] at eb; injection eb with eb; omega
      · simp only [if_neg e]; exact ho.2.2 j hj
end Go.Proofs.Yteheedbhmggcgaa
