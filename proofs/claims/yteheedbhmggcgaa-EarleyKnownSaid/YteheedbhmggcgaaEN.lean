import Derived.Test.YteheedbhmggcgaaEM
namespace Go.Proofs.Yteheedbhmggcgaa
open Go Go.Vy Go.Proofs
set_option linter.unusedSimpArgs false
set_option linter.unusedVariables false
theorem rdI_new (H : Hp) (xs : List Int) (n : Nat) (h : n = xs.length) : RdI (H.push (row 3 (xs.map iv))) (.slice (some ⟨H.size, 0, none⟩) n n) xs := by
  subst h
  refine ⟨some ⟨H.size, 0, none⟩, xs.length, by simp, by simp, fun i hi => ⟨H.size, 0, rfl, ?_⟩⟩
  rw [Nat.zero_add, ldc_row (get_new _ _)]
theorem rdI_nil (H : Hp) : RdI H (.slice none 0 0) [] := Rd.nil H
theorem bslI1 (H : Hp) (K : Value → Hp → Prop) (a : Int) : bslK Try.prog 28 1 [(0, .int .i64 a)] H K = K (.slice (some ⟨H.size, 0, none⟩) 1 1) (H.push (row 3 ([a].map iv))) := by
  have hb : bld (fun i => some (i * 1, 1)) (rep 1 [Value.int .i64 0]) [(0, .int .i64 a)] = some ([a].map iv) := by
    simp [bld, rep, Builtin.zeroCells, ow, Value.cells, Array.range]
  unfold bslK
  simp only [slT28, zc3, hz3]
  rw [hb]
  simp
theorem bslI2 (H : Hp) (K : Value → Hp → Prop) (a b : Int) : bslK Try.prog 28 2 [(0, .int .i64 a), (1, .int .i64 b)] H K = K (.slice (some ⟨H.size, 0, none⟩) 2 2) (H.push (row 3 ([a, b].map iv))) := by
  have hb : bld (fun i => some (i * 1, 1)) (rep 2 [Value.int .i64 0]) [(0, .int .i64 a), (1, .int .i64 b)] = some ([a, b].map iv) := by
    simp [bld, rep, Builtin.zeroCells, ow, Value.cells, Array.range]
  unfold bslK
  simp only [slT28, zc3, hz3]
  rw [hb]
  simp
theorem bslI3 (H : Hp) (K : Value → Hp → Prop) (a b c : Int) : bslK Try.prog 28 3 [(0, .int .i64 a), (1, .int .i64 b), (2, .int .i64 c)] H K = K (.slice (some ⟨H.size, 0, none⟩) 3 3) (H.push (row 3 ([a, b, c].map iv))) := by
  have hb : bld (fun i => some (i * 1, 1)) (rep 3 [Value.int .i64 0]) [(0, .int .i64 a), (1, .int .i64 b), (2, .int .i64 c)] = some ([a, b, c].map iv) := by
    simp [bld, rep, Builtin.zeroCells, ow, Value.cells, Array.range]
  unfold bslK
  simp only [slT28, zc3, hz3]
  rw [hb]
  simp
theorem bslI4 (H : Hp) (K : Value → Hp → Prop) (a b c d : Int) : bslK Try.prog 28 4 [(0, .int .i64 a), (1, .int .i64 b), (2, .int .i64 c), (3, .int .i64 d)] H K = K (.slice (some ⟨H.size, 0, none⟩) 4 4) (H.push (row 3 ([a, b, c, d].map iv))) := by
  have hb : bld (fun i => some (i * 1, 1)) (rep 4 [Value.int .i64 0]) [(0, .int .i64 a), (1, .int .i64 b), (2, .int .i64 c), (3, .int .i64 d)] = some ([a, b, c, d].map iv) := by
    simp [bld, rep, Builtin.zeroCells, ow, Value.cells, Array.range]
  unfold bslK
  simp only [slT28, zc3, hz3]
  rw [hb]
  simp
theorem bslI5 (H : Hp) (K : Value → Hp → Prop) (a b c d e : Int) : bslK Try.prog 28 5 [(0, .int .i64 a), (1, .int .i64 b), (2, .int .i64 c), (3, .int .i64 d), (4, .int .i64 e)] H K = K (.slice (some ⟨H.size, 0, none⟩) 5 5) (H.push (row 3 ([a, b, c, d, e].map iv))) := by
  have hb : bld (fun i => some (i * 1, 1)) (rep 5 [Value.int .i64 0]) [(0, .int .i64 a), (1, .int .i64 b), (2, .int .i64 c), (3, .int .i64 d), (4, .int .i64 e)] = some ([a, b, c, d, e].map iv) := by
    simp [bld, rep, Builtin.zeroCells, ow, Value.cells, Array.range]
  unfold bslK
  simp only [slT28, zc3, hz3]
  rw [hb]
  simp
theorem bld44 (a : Int) (p : Option Addr) (m n : Nat) : bldV Try.prog 44 [(0, .int .i64 a), (1, .slice p m n)] = some (.agg #[.int .i64 a, .slice p m n, .int .i64 0, .int .i64 0]) := by
  simp [bldV, plc44, hz44, zc44, bld, ow, Value.cells]
theorem p_spec (H : Hp) (a : Int) (p : Option Addr) (n cp : Nat) :
    CallsV Try.prog 14 [.int .i64 a, .slice p n cp].toArray H (fun r H' => Ext H H' ∧ r = .agg #[.int .i64 a, .slice p n cp, .int .i64 0, .int .i64 0]) := by
  refine calls_W (m := 8) Try.call14 Try.func14 rfl rfl (by decide +kernel) (by simp) ?_
  first | refine W_regK ?_ | refine W_seq (W_regK ?_)
  intro K hK; simp (maxSteps := 1000000) (disch := omega) only [BOps_nil, BOps_cons, Cont_eq, Bev, updO, wantD, ↓reduceIte, List.map, hz44, zc44]
  have hE := (Ext.refl H).push (row 44 (zc Try.prog 44))
  have hb := get_new H (row 44 (zc Try.prog 44))
  refine hK _ _ ?_; clear hK K
  have hst : stn (H.push (row 44 (zc Try.prog 44))) ⟨H.size, 0, none⟩ [.int .i64 a, .slice p n cp, .int .i64 0, .int .i64 0] = some (H.push (row 44 [.int .i64 a, .slice p n cp, .int .i64 0, .int .i64 0])) := stn_new (by rw [zc44]; rfl) rfl
  first | refine W_regK ?_ | refine W_seq (W_regK ?_)
  intro K hK; simp (maxSteps := 1000000) (disch := omega) only [stn_new_isii, optH_some, BOps_nil, BOps_cons, Cont_eq, Bev, rd, ev, updO, upd, wantD, argf, optK_some, optH_some, Nat.reduceEqDiff, ↓reduceIte, List.map, List.toList_toArray, reduceCtorEq, Value.cells, List.size_toArray, List.length_cons, List.length_nil, Nat.reduceAdd, Nat.zero_add, st44, bld44]
  have hE := (Ext.refl H).push (row 44 [.int .i64 a, .slice p n cp, .int .i64 0, .int .i64 0])
  have hb := get_new H (row 44 [.int .i64 a, .slice p n cp, .int .i64 0, .int .i64 0])
  generalize H.push (row 44 [.int .i64 a, .slice p n cp, .int .i64 0, .int .i64 0]) = H1 at *
  refine hK _ _ ?_; clear hK K
  have hl : ld Try.prog H1 44 ⟨H.size, 0, none⟩ = some (.agg #[.int .i64 a, .slice p n cp, .int .i64 0, .int .i64 0]) := by
    rw [ld44, ldn_row hb]; rfl
  refine W_ret ?_; simp only [retQ, Try.results14, List.toList_toArray]
  rw [resVc (by simp [upd]) hl]
  exact ⟨_, rfl, hE, rfl⟩
theorem tells_spec (H : Hp) (vt vl vp vn vd vk : Value) (g : Gm) (ks : List Int) (hg : GV H vt vl vp vn vd g) (hk : RdI H vk ks) (d v : Bool) (w : Int) (ht : TV g ks d v w) :
    CallsV Try.prog 15 [.agg #[vt, vl, vp, vn, vd], .bool d, .bool v, .int .i64 w, vk].toArray H (fun r H' => r = .bool true ∧ Ext H H') := by
  have hkl : ks.length ≤ 2 ^ 45 := Nat.le_trans ht.kok.1 (by omega)
  have hz : ∀ e, EChk g ks e → e = 0 := fun e h => h.zero.2 ⟨ht.ok, ht.kok⟩
  refine calls_W (m := 60) Try.call15 Try.func15 rfl rfl (by decide +kernel) (by simp) ?_
  first | refine W_regK ?_ | refine W_seq (W_regK ?_)
  intro K hK; simp (maxSteps := 1000000) (disch := omega) only [BOps_nil, BOps_cons, Cont_eq, Bev, rd, ev, updO, wantD, argf, optK_some, ↓reduceIte, List.map, List.toList_toArray, Value.cells]
  have hE := (Ext.refl H).push (row 27 [vt, vl, vp, vn, vd])
  have hb := get_new H (row 27 [vt, vl, vp, vn, vd])
  have hg1 := hg.ext hE
  have hk1 := RdI.ext hE hk
  generalize hk0 : H.size = k0 at *
  generalize H.push _ = H1 at *
  refine hK _ _ ?_; clear hK K
  have l0 : ldn H1 5 ⟨k0, 0, none⟩ = some [vt, vl, vp, vn, vd] := by rw [ldn_row hb]; rfl
  first | refine W_regK ?_ | refine W_seq (W_regK ?_)
  intro K hK; simp (maxSteps := 1000000) (disch := omega) only [BOps_cons, Cont_eq, Bev, rd, ev, updO, upd, wantD, argf, optK_some, Nat.reduceEqDiff, ↓reduceIte, List.map, List.map_toArray, List.append_toArray, List.append_nil, List.nil_append, Option.map_some, ld27, l0]
  refine (derives_spec H1 _ _ _ _ _ vk g ks hg1 hk1 hkl).mono ?_
  rintro r H2 ⟨hE2, b1, e1, rfl, hC1, hr1, -⟩
  obtain rfl := hz e1 hC1
  have hd : b1 = d := by
    have := (hr1 rfl).trans ht.der
    cases b1 <;> cases d <;> simp_all
  subst hd
  try simp (maxSteps := 1000000) (disch := omega) only [List.getElem?_toArray, BOps_nil, BOps_cons, Cont_eq, Bev, rd, ev, updO, upd, wantD, List.getElem?_cons_succ, List.getElem?_cons_zero, optK_some, Nat.reduceEqDiff, ↓reduceIte]
  have hE := hE.trans hE2
  have hb := hE2.get hb
  have hg1 := hg1.ext hE2
  have hk1 := RdI.ext hE2 hk1
  refine hK _ _ ?_; clear hK K
  have l0 : ldn H2 5 ⟨k0, 0, none⟩ = some [vt, vl, vp, vn, vd] := by rw [ldn_row hb]; rfl
  first | refine W_regK ?_ | refine W_seq (W_regK ?_)
  intro K hK; simp (maxSteps := 1000000) (disch := omega) only [BOps_cons, Cont_eq, Bev, rd, ev, updO, upd, wantD, argf, optK_some, Nat.reduceEqDiff, ↓reduceIte, List.map, List.map_toArray, List.append_toArray, List.append_nil, List.nil_append, Option.map_some, ld27, l0]
  refine (viable_spec H2 _ _ _ _ _ vk g ks hg1 hk1 hkl).mono ?_
  rintro r H3 ⟨hE3, b2, e2, rfl, hC2, hr2, -⟩
  obtain rfl := hz e2 hC2
  have hv : b2 = v := by
    have := (hr2 rfl).trans ht.via
    cases b2 <;> cases v <;> simp_all
  subst hv
  try simp (maxSteps := 1000000) (disch := omega) only [List.getElem?_toArray, BOps_nil, BOps_cons, Cont_eq, Bev, rd, ev, updO, upd, wantD, List.getElem?_cons_succ, List.getElem?_cons_zero, optK_some, Nat.reduceEqDiff, ↓reduceIte]
  have hE := hE.trans hE3
  have hb := hE3.get hb
  have hg1 := hg1.ext hE3
  have hk1 := RdI.ext hE3 hk1
  refine hK _ _ ?_; clear hK K
  have l0 : ldn H3 5 ⟨k0, 0, none⟩ = some [vt, vl, vp, vn, vd] := by rw [ldn_row hb]; rfl
  first | refine W_regK ?_ | refine W_seq (W_regK ?_)
  intro K hK; simp (maxSteps := 1000000) (disch := omega) only [BOps_cons, Cont_eq, Bev, rd, ev, updO, upd, wantD, argf, optK_some, Nat.reduceEqDiff, ↓reduceIte, List.map, List.map_toArray, List.append_toArray, List.append_nil, List.nil_append, Option.map_some, ld27, l0]
  refine (counts_spec H3 _ _ _ _ _ vk g ks hg1 hk1 hkl).mono ?_
  rintro r H4 ⟨hE4, n, e3, rfl, hC3, hr3, -⟩
  obtain rfl := hz e3 hC3
  obtain ⟨W, h1, h2, h3, hn⟩ := hr3 rfl
  have hw : n = w := by rw [hn]; exact ht.way W ⟨h1, h2, h3⟩
  subst hw
  try simp (maxSteps := 1000000) (disch := omega) only [List.getElem?_toArray, BOps_nil, BOps_cons, Cont_eq, Bev, rd, ev, updO, upd, wantD, List.getElem?_cons_succ, List.getElem?_cons_zero, optK_some, Nat.reduceEqDiff, ↓reduceIte]
  have hE := hE.trans hE4
  refine hK _ _ ?_; clear hK K
  first | refine W_regK ?_ | refine W_seq (W_regK ?_)
  intro K hK; simp (maxSteps := 1000000) (disch := omega) only [BOps_nil, BOps_cons, Cont_eq, Bev, rd, ev, updO, upd, wantD, List.getElem?_cons_succ, List.getElem?_cons_zero, bin, argf, optK_some, Nat.reduceEqDiff, ↓reduceIte, List.map, ne_eq, not_true_eq_false, u4, beq_self_eq_true]
  refine hK _ _ ?_; clear hK K
  refine W_ret ?_; simp only [retQ, Try.results15, resV1, Option.some.injEq, exists_eq_left', upd, ↓reduceIte, List.toList_toArray, true_and]
  exact hE
end Go.Proofs.Yteheedbhmggcgaa
