import Derived.Test.YteheedbhmggcgaaE9
namespace Go.Proofs.Yteheedbhmggcgaa
open Go Go.Vy Go.Proofs
set_option linter.unusedSimpArgs false
set_option linter.unusedVariables false
/-- Is an item whole, of a name, and did it begin at a place? -/
def Whole (g : Gm) (name at_ : Int) (x : It) : Prop := x.f = at_ ∧ (gp g x.p).left = name ∧ x.d = (gp g x.p).rhs.length
theorem ended_spec (H0 H : Hp) (c : Nat) (cs : List Value) (R : Nat → List It) (mb : Nat → Nat) (B : Nat → Option Nat) (rv : Nat → Value) (g : Gm) (ks : List Int) (h : Ch H0 H c cs R mb B rv) (hd : Hd H0 cs g ks) (name at_ : Int) (ha : 0 ≤ at_) (ha1 : at_ < 61) (hit : ∀ x ∈ R at_.toNat, ItOk g x) :
    CallsV Try.prog 42 [.pointer (some ⟨c, 0, none⟩), .int .i64 name, .int .i64 at_].toArray H (fun r H' => Ext H H' ∧ ∃ b : Bool, r = .bool b ∧ (b = true ↔ ∃ x ∈ R at_.toNat, Whole g name at_ x)) := by
  obtain ⟨vt, vl, vp, vn, vd, vk, at0, ct, bp, op, cap, ra, rb, ro, rc, rfl, ho⟩ := hd.opn
  obtain ⟨rfl, rfl, hP, hk⟩ := ho
  have hsh := hd.sh
  have := hsh.np
  generalize hl : (R at_.toNat).map (fun x => (x, Value.bool true)) = l
  have hm := h.maps at_.toNat (by omega)
  rw [hl] at hm
  have hlm := h.map at_ ha ha1
  refine calls_W (m := 53) Try.call42 Try.func42 rfl rfl (by decide +kernel) (by simp) ?_
  first | refine W_regK ?_ | refine W_seq (W_regK ?_)
  intro K hK; simp (maxSteps := 1000000) (disch := omega) only [BOps_nil, BOps_cons, Cont_eq, Bev, rd, ev, updO, wantD, optK_some, ↓reduceIte, List.map]
  refine hK _ _ ?_; clear hK K
  first | refine W_regK ?_ | refine W_seq (W_regK ?_)
  intro K hK; simp (maxSteps := 1000000) (disch := omega) only [BOps_cons, Cont_eq, Bev, rd, ev, updO, upd, wantD, argf, optK_some, Nat.reduceEqDiff, ↓reduceIte, List.map, reduceCtorEq, inI_pos, Nat.zero_add, ld61, ixk64, fld66_3, hlm]
  refine rangeK_mobj u61 hm ?_
  have hE := (Ext.refl H).push (.mapIter (some (mb at_.toNat)) l.length #[] l.length)
  have hb := get_new H (.mapIter (some (mb at_.toNat)) l.length #[] l.length)
  generalize hk0 : H.size = ib at hE hb ⊢
  have hbs : H.size ≤ ib := by omega
  generalize H.push _ = H1 at hE hb ⊢
  simp (maxSteps := 1000000) (disch := omega) only [BOps_nil, Cont_eq, updO]
  refine hK _ _ ?_; clear hK K
  first | refine W_seq (W_block (W_loop (fun z f H' => ∃ seen : Array Nat, z = l.length - seen.size ∧ f 0 = .pointer (some ⟨c, 0, none⟩) ∧ f 1 = .int .i64 name ∧ f 2 = .int .i64 at_ ∧ f 14 = .pointer (some ⟨ib, 0, none⟩) ∧ Ext H H' ∧ H'[ib]? = some (.mapIter (some (mb at_.toNat)) l.length seen l.length) ∧ seen.toList.Nodup ∧ (∀ i ∈ seen.toList, i < l.length) ∧ ∀ i, (hi : i < l.length) → i ∈ seen → ¬ Whole g name at_ l[i].1) l.length ?_ ?_)) | refine W_block (W_loop (fun z f H' => ∃ seen : Array Nat, z = l.length - seen.size ∧ f 0 = .pointer (some ⟨c, 0, none⟩) ∧ f 1 = .int .i64 name ∧ f 2 = .int .i64 at_ ∧ f 14 = .pointer (some ⟨ib, 0, none⟩) ∧ Ext H H' ∧ H'[ib]? = some (.mapIter (some (mb at_.toNat)) l.length seen l.length) ∧ seen.toList.Nodup ∧ (∀ i ∈ seen.toList, i < l.length) ∧ ∀ i, (hi : i < l.length) → i ∈ seen → ¬ Whole g name at_ l[i].1) l.length ?_ ?_)
  · exact ⟨#[], rfl, by simp [upd, argf], by simp [upd, argf], by simp [upd, argf], by simp [upd], hE, hb, by simp, by simp, by simp⟩
  clear hE hb H1
  rintro z f H' ⟨seen, rfl, g0, g1, g2, g14, hE, hb, hnd, hlt, hno⟩
  have hm' := hE.get hm
  first | refine W_regK ?_ | refine W_seq (W_regK ?_)
  intro K hK; simp (maxSteps := 1000000) (disch := omega) only [BOps_cons, Bev, ev, wantD, ↓reduceIte, List.map, g14]
  refine nextK_mobj hb hm' ?_ ?_
  · intro i hi hns
    have hmem : ∀ y ∈ l, y.1 ∈ R at_.toNat := by
      intro y hy
      rw [← hl] at hy
      obtain ⟨x, hx, e⟩ := List.mem_map.1 hy
      rw [← e]; exact hx
    have hmem := hmem _ (List.getElem_mem hi)
    have hx := hit _ hmem
    generalize hxi : l[i].1 = x at *
    have := hx.p0; have := hx.p1; have := hx.d0; have := hx.d1; have := hx.f0; have := hx.f1
    have hrl := hsh.rl _ (gp_mem hx.p0 hx.p1)
    have hE1 := hE.set hbs (.mapIter (some (mb at_.toNat)) l.length (seen.push i) l.length)
    have hb1 := get_set (lt_of_get hb) (.mapIter (some (mb at_.toNat)) l.length (seen.push i) l.length)
    generalize H'.setIfInBounds ib _ = H1 at hE1 hb1 ⊢
    have hent := entryK_mobj hb1 (hE1.get hm) hi
    rw [hxi] at hent
    simp (maxSteps := 1000000) (disch := omega) only [List.getElem?_toArray, BOps_nil, BOps_cons, Cont_eq, Bev, rd, ev, updO, upd, wantD, List.getElem?_cons_zero, optK_some, ↓reduceIte]
    refine hK _ _ ?_; clear hK K
    first | refine W_seq (W_cond_t (by simp only [ev, upd, ↓reduceIte]) ?_) | refine W_cond_t (by simp only [ev, upd, argf, Nat.reduceEqDiff, ↓reduceIte, reduceCtorEq]) ?_
    refine W_skip ?_; try simp only [thenQ]
    first | refine W_seq (W_block ?_) | refine W_block ?_
    first | refine W_regK ?_ | refine W_seq (W_regK ?_)
    intro K hK; simp (maxSteps := 1000000) (disch := omega) only [List.getElem?_toArray, stn_new_iii, optH_some, BOps_nil, BOps_cons, Cont_eq, Bev, rd, ev, updO, upd, wantD, List.getElem?_cons_zero, optK_some, optH_some, Nat.reduceEqDiff, ↓reduceIte, List.map, List.toList_toArray, Value.cells, List.size_toArray, List.length_cons, List.length_nil, Nat.reduceAdd, Nat.zero_add, hz68, st68, zc68, g14, hent, encIt]
    have hE2 := hE1.push (row 68 [.int .i64 x.p, .int .i64 x.d, .int .i64 x.f])
    have hq := get_new H1 (row 68 [.int .i64 x.p, .int .i64 x.d, .int .i64 x.f])
    have hb2 := get_push hb1 (row 68 [.int .i64 x.p, .int .i64 x.d, .int .i64 x.f])
    clear hb hE hE1 hb1 hent hm'
    generalize hk1 : H1.size = xb at hq ⊢
    generalize H1.push _ = H2 at hq hb2 hE2 ⊢
    have x0 : ldc H2 ⟨xb, 0, none⟩ = some (.int .i64 x.p) := ldc_row hq 0
    have x1 : ldc H2 ⟨xb, 1, none⟩ = some (.int .i64 x.d) := ldc_row hq 1
    have x2 : ldc H2 ⟨xb, 2, none⟩ = some (.int .i64 x.f) := ldc_row hq 2
    have h2 := h.grow hE2
    have hP2 := hP.ext h2.ext
    have l4 : ldc H2 ⟨c, 4, none⟩ = some (.slice (some ⟨bp, op, none⟩) g.prods.length cap) := by rw [h2.head 4 (by omega)]; rfl
    have hle := hP2.left x.p hx.p0 hx.p1
    have hri := hP2.right x.p hx.p0 hx.p1
    refine hK _ _ ?_; clear hK K
    have next : ∀ f2 : Nat → Value, f2 0 = f 0 → f2 1 = f 1 → f2 2 = f 2 → f2 14 = f 14 → ¬ Whole g name at_ x → ∃ j, j < l.length - seen.size ∧ ∃ seen : Array Nat, j = l.length - seen.size ∧ f2 0 = .pointer (some ⟨c, 0, none⟩) ∧ f2 1 = .int .i64 name ∧ f2 2 = .int .i64 at_ ∧ f2 14 = .pointer (some ⟨ib, 0, none⟩) ∧ Ext H H2 ∧ H2[ib]? = some (.mapIter (some (mb at_.toNat)) l.length seen l.length) ∧ seen.toList.Nodup ∧ (∀ i ∈ seen.toList, i < l.length) ∧ ∀ i, (hi : i < l.length) → i ∈ seen → ¬ Whole g name at_ l[i].1 := by
      intro f2 a0 a1 a2 a14 hnw
      have hnd2 : (seen.push i).toList.Nodup := by
        rw [Array.toList_push, List.nodup_append]
        refine ⟨hnd, by simp, ?_⟩
        intro a ha b hb e
        simp at hb; subst hb; subst e
        exact hns (by simpa using ha)
      have hlt2 : ∀ j ∈ (seen.push i).toList, j < l.length := by
        intro j hj
        rw [Array.toList_push, List.mem_append] at hj
        rcases hj with hj | hj
        · exact hlt j hj
        · simp at hj; omega
      have hbound := nodup_bound _ _ hnd2 hlt2
      simp at hbound
      refine ⟨_, ?_, seen.push i, rfl, by rw [a0, g0], by rw [a1, g1], by rw [a2, g2], by rw [a14, g14], hE2, hb2, hnd2, hlt2, ?_⟩
      · simp; omega
      · intro j hj hmj
        simp at hmj
        rcases hmj with hmj | rfl
        · exact hno j hj hmj
        · rw [hxi]; exact hnw
    by_cases c1 : x.f = at_
    rotate_left
    · have c1' : (x.f == at_) = false := beq_eq_false_iff_ne.2 c1
      first | refine W_drawK mixed (by decide +kernel) ?_ | refine W_seq (W_drawK mixed (by decide +kernel) ?_)
      intro K hK; simp (maxSteps := 1000000) (disch := omega) only [optQ_some, QOps_nil, QOps_cons, QCont_eq, QBev, rq, rd, ev, updO, upd, wantD, List.getElem?_cons_succ, List.getElem?_cons_zero, vft, bin, Nat.reduceEqDiff, ↓reduceIte, List.map, ne_eq, not_true_eq_false, Bool.false_eq_true, Nat.zero_add, ld3, fld68_2, x2, g2, c1']
      refine hK _ ?_; clear hK K
      first | refine W_seq (W_cond_f (by simp only [ev]) ?_) | refine W_cond_f (by simp only [ev, upd, ↓reduceIte]) ?_
      refine W_skip ?_; try simp only [thenQ, blockQ]
      exact next _ (by simp [upd]) (by simp [upd]) (by simp [upd]) (by simp [upd]) (fun hw => c1 hw.1)
    have c1' : (x.f == at_) = true := beq_iff_eq.2 c1
    by_cases c2 : (gp g x.p).left = name
    rotate_left
    · have c2' : ((gp g x.p).left == name) = false := beq_eq_false_iff_ne.2 c2
      first | refine W_drawK mixed (by decide +kernel) ?_ | refine W_seq (W_drawK mixed (by decide +kernel) ?_)
      intro K hK; simp (maxSteps := 1000000) (disch := omega) only [optQ_some, QOps_nil, QOps_cons, QCont_eq, QBev, rq, rd, ev, updO, upd, wantD, List.getElem?_cons_succ, List.getElem?_cons_zero, vft, vtt, bin, Nat.reduceEqDiff, ↓reduceIte, List.map, ne_eq, not_true_eq_false, reduceCtorEq, inI_pos, Bool.false_eq_true, Nat.zero_add, Nat.add_zero, ld3, ld25, ixk25, fld27_4, fld44_0, fld66_0, fld68_0, fld68_2, x0, x2, g0, g1, g2, c1', c2', l4, hle]
      refine hK _ ?_; clear hK K
      first | refine W_seq (W_cond_f (by simp only [ev]) ?_) | refine W_cond_f (by simp only [ev, upd, ↓reduceIte]) ?_
      refine W_skip ?_; try simp only [thenQ, blockQ]
      exact next _ (by simp [upd]) (by simp [upd]) (by simp [upd]) (by simp [upd]) (fun hw => c2 hw.2.1)
    have c2' : ((gp g x.p).left == name) = true := beq_iff_eq.2 c2
    by_cases c3 : x.d = (gp g x.p).rhs.length
    rotate_left
    · have c3' : (x.d == ((gp g x.p).rhs.length : Int)) = false := beq_eq_false_iff_ne.2 c3
      first | refine W_drawK mixed (by decide +kernel) ?_ | refine W_seq (W_drawK mixed (by decide +kernel) ?_)
      intro K hK; simp (maxSteps := 1000000) (disch := omega) only [optQ_some, QOps_nil, QOps_cons, QCont_eq, QBev, rq, rd, rdB, ev, updO, upd, wantD, List.getElem?_cons_succ, List.getElem?_cons_zero, vtt, bin, Nat.reduceEqDiff, ↓reduceIte, List.map, ne_eq, not_true_eq_false, reduceCtorEq, inI_pos, Nat.zero_add, Nat.add_zero, ld3, ld25, ixk25, fld27_4, u28, ld28, fld44_0, fld44_1, fld66_0, fld68_0, fld68_1, fld68_2, x0, x1, x2, g0, g1, g2, c1', c2', c3', l4, hle, hri]
      refine hK _ ?_; clear hK K
      first | refine W_seq (W_cond_f (by simp only [ev]) ?_) | refine W_cond_f (by simp only [ev, upd, ↓reduceIte]) ?_
      refine W_skip ?_; try simp only [thenQ, blockQ]
      exact next _ (by simp [upd]) (by simp [upd]) (by simp [upd]) (by simp [upd]) (fun hw => c3 hw.2.2)
    have c3' : (x.d == ((gp g x.p).rhs.length : Int)) = true := beq_iff_eq.2 c3
    first | refine W_drawK mixed (by decide +kernel) ?_ | refine W_seq (W_drawK mixed (by decide +kernel) ?_)
    intro K hK; simp (maxSteps := 1000000) (disch := omega) only [optQ_some, QOps_nil, QOps_cons, QCont_eq, QBev, rq, rd, rdB, ev, updO, upd, wantD, List.getElem?_cons_succ, List.getElem?_cons_zero, vtt, bin, Nat.reduceEqDiff, ↓reduceIte, List.map, ne_eq, not_true_eq_false, reduceCtorEq, inI_pos, Nat.zero_add, Nat.add_zero, ld3, ld25, ixk25, fld27_4, u28, ld28, fld44_0, fld44_1, fld66_0, fld68_0, fld68_1, fld68_2, x0, x1, x2, g0, g1, g2, c1', c2', c3', l4, hle, hri]
    refine hK _ ?_; clear hK K
    first | refine W_seq (W_cond_t (by simp only [ev]) ?_) | refine W_cond_t (by simp only [ev, upd, ↓reduceIte]) ?_
    first | refine W_regK ?_ | refine W_seq (W_regK ?_)
    intro K hK; simp (maxSteps := 1000000) (disch := omega) only [BOps_nil, BOps_cons, Cont_eq, Bev, rd, ev, updO, wantD, optK_some, ↓reduceIte, List.map]
    refine hK _ _ ?_; clear hK K
    refine W_ret ?_; simp only [thenQ, blockQ, retQ, Try.results42, resV1, Option.some.injEq, exists_eq_left', upd, ↓reduceIte, List.toList_toArray]
    exact ⟨hE2, true, rfl, fun _ => ⟨x, hmem, c1, c2, c3⟩, fun _ => rfl⟩
  · intro hall
    simp (maxSteps := 1000000) (disch := omega) only [List.getElem?_toArray, BOps_nil, BOps_cons, Cont_eq, Bev, rd, ev, updO, upd, wantD, List.getElem?_cons_zero, optK_some, ↓reduceIte]
    refine hK _ _ ?_; clear hK K
    first | refine W_seq (W_cond_f (by simp only [ev, upd, ↓reduceIte]) ?_) | refine W_cond_f (by simp only [ev, upd, argf, Nat.reduceEqDiff, ↓reduceIte, reduceCtorEq]) ?_
    refine W_exit ?_; simp only [thenQ, blockQ, ↓reduceIte]
    first | refine W_regK ?_ | refine W_seq (W_regK ?_)
    intro K hK; simp (maxSteps := 1000000) (disch := omega) only [BOps_nil, BOps_cons, Cont_eq, Bev, rd, ev, updO, wantD, optK_some, ↓reduceIte, List.map]
    refine hK _ _ ?_; clear hK K
    refine W_ret ?_; simp only [retQ, Try.results42, resV1, Option.some.injEq, exists_eq_left', upd, ↓reduceIte, List.toList_toArray]
    refine ⟨hE, false, rfl, fun h => by simp at h, ?_⟩
    rintro ⟨x, hx, hw⟩
    obtain ⟨i, hi, rfl⟩ := List.getElem_of_mem hx
    have hi' : i < l.length := by rw [← hl]; simpa using hi
    refine absurd ?_ (hno i hi' (hall i hi'))
    have : l[i].1 = (R at_.toNat)[i] := by simp [← hl]
    rw [this]; exact hw
end Go.Proofs.Yteheedbhmggcgaa
