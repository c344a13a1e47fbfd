import Derived.Test.YteheedbhmggcgaaE3
namespace Go.Proofs.Yteheedbhmggcgaa
open Go Go.Vy Go.Proofs
set_option linter.unusedSimpArgs false
set_option linter.unusedVariables false
/-- Names that can become terms. -/
inductive Useful (g : Gm) : Int → Prop
  | mk (p : Pr) : p ∈ g.prods → (∀ s ∈ p.rhs, s ≥ (g.nt : Int) → Useful g (s - g.nt)) → Useful g p.left
/-- What is known of names, in the heap. -/
structure Kn (H0 H : Hp) (k ub : Nat) (cs : List Value) (u : List Bool) : Prop where
  ext : Ext H0 H
  hk : H0.size ≤ k
  hu : H0.size ≤ ub
  ne : k ≠ ub
  kb : H[k]? = some (row 55 (cs ++ [.slice (some ⟨ub, 0, none⟩) u.length u.length, .slice none 0 0, .slice none 0 0]))
  ubb : H[ub]? = some (row 4 (u.map Value.bool))
theorem Kn.grow {H0 H H' : Hp} {k ub : Nat} {cs : List Value} {u : List Bool} (h : Kn H0 H k ub cs u) (e : Ext H H') : Kn H0 H' k ub cs u :=
  ⟨h.ext.trans e, h.hk, h.hu, h.ne, e.get h.kb, e.get h.ubb⟩
theorem Kn.set {H0 H : Hp} {k ub : Nat} {cs : List Value} {u : List Bool} (h : Kn H0 H k ub cs u) (u' : List Bool) (hl : u'.length = u.length) : Kn H0 (H.setIfInBounds ub (row 4 (u'.map Value.bool))) k ub cs u' :=
  ⟨h.ext.set h.hu _, h.hk, h.hu, h.ne, by rw [get_set_ne (fun e => h.ne e.symm), h.kb, hl], get_set (lt_of_get h.ubb) _⟩
theorem useful1_spec (H0 H : Hp) (k ub tb kb nt : Nat) (vt vl vp vn vd : Value) (u : List Bool) (s : Int) (h : Kn H0 H k ub [vt, vl, vp, vn, vd] u) (ht : ldc H ⟨tb, 0, none⟩ = some (.int .i64 nt)) (hk : ldc H ⟨kb, 0, none⟩ = some (.pointer (some ⟨k, 0, none⟩)))
    (hs : s < nt + u.length) (hb : nt ≤ 2 ^ 45) (hb' : u.length ≤ 2 ^ 45) :
    CallsV Try.prog 31 ([].toArray ++ [.int .i64 s].toArray ++ [.pointer (some ⟨tb, 0, none⟩), .pointer (some ⟨kb, 0, none⟩)].toArray) H (fun r H' => r = .bool (decide (s ≥ nt) && !bu u (s - nt)) ∧ H' = H) := by
  simp only [List.append_toArray, List.nil_append, List.cons_append]
  have l5 : ldc H ⟨k, 5, none⟩ = some (.slice (some ⟨ub, 0, none⟩) u.length u.length) := by rw [ldc_row h.kb]; rfl
  refine calls_W (m := 20) Try.call31 Try.func31 rfl rfl (by decide +kernel) (by simp) ?_
  first | refine W_regK ?_ | refine W_seq (W_regK ?_)
  intro K hK; simp (maxSteps := 1000000) (disch := omega) only [BOps_nil, BOps_cons, Cont_eq, Bev, rd, ev, updO, wantD, optK_some, ↓reduceIte, List.map]
  refine hK _ _ ?_; clear hK K
  by_cases c1 : s ≥ nt
  · have c1' : decide (s ≥ (nt : Int)) = true := by simpa using c1
    have hl := bu_ld h.ubb (s - nt) (by omega) (by omega)
    first | refine W_drawK mixed (by decide +kernel) ?_ | refine W_seq (W_drawK mixed (by decide +kernel) ?_)
    intro K hK; simp (maxSteps := 1000000) (disch := omega) only [optQ_some, QOps_nil, QOps_cons, QCont_eq, QBev, rq, rd, ev, updO, upd, wantD, List.getElem?_cons_succ, List.getElem?_cons_zero, vtt, bin, argf, Nat.reduceEqDiff, ↓reduceIte, List.map, ne_eq, not_true_eq_false, reduceCtorEq, inI_pos, wrapi, Nat.zero_add, ld3, ld4, ld52, ixk52, fld55_1, ld79, ht, hk, l5, hl, c1']
    refine hK _ ?_; clear hK K
    refine W_ret ?_; simp only [retQ, Try.results31, resV1, Option.some.injEq, exists_eq_left', upd, ↓reduceIte, List.toList_toArray, and_true]
    simp [c1]
  · have c1' : decide (s ≥ (nt : Int)) = false := by simpa using c1
    first | refine W_drawK mixed (by decide +kernel) ?_ | refine W_seq (W_drawK mixed (by decide +kernel) ?_)
    intro K hK; simp (maxSteps := 1000000) (disch := omega) only [optQ_some, QOps_nil, QOps_cons, QCont_eq, QBev, rq, rd, ev, updO, upd, wantD, List.getElem?_cons_succ, List.getElem?_cons_zero, vft, bin, argf, Nat.reduceEqDiff, ↓reduceIte, List.map, ne_eq, not_true_eq_false, reduceCtorEq, Bool.false_eq_true, ld3, ht, c1']
    refine hK _ ?_; clear hK K
    refine W_ret ?_; simp only [retQ, Try.results31, resV1, Option.some.injEq, exists_eq_left', upd, ↓reduceIte, List.toList_toArray, and_true]
    simp [c1]
def cntF (u : List Bool) : Nat := u.countP (· == false)
theorem cntF_set : ∀ (u : List Bool) (i : Nat), u[i]? = some false → cntF (u.set i true) < cntF u
  | [], _, h => by simp at h
  | b :: u, 0, h => by simp at h; subst h; simp [cntF]
  | b :: u, i + 1, h => by
    have := cntF_set u i (by simpa using h)
    simp only [cntF, List.set_cons_succ, List.countP_cons] at this ⊢
    omega
/-- The productions that all stand for terms, as far as it's known, are known. -/
def Closed (g : Gm) (u : List Bool) (p : Pr) : Prop := (∀ s ∈ p.rhs, s ≥ (g.nt : Int) → bu u (s - g.nt) = true) → bu u p.left = true
structure Shape (g : Gm) : Prop where
  nt : g.nt ≤ 48
  nn : g.nn ≤ 48
  nt1 : 1 ≤ g.nt
  nn2 : 2 ≤ g.nn
  np : g.prods.length ≤ 128
  np1 : 0 < g.prods.length
  rl : ∀ p ∈ g.prods, p.rhs.length ≤ 12
  left : ∀ p ∈ g.prods, 0 ≤ p.left ∧ p.left < g.nn
  sym : ∀ p ∈ g.prods, ∀ s ∈ p.rhs, 1 ≤ s ∧ s < g.nt + g.nn ∧ s ≠ g.nt
theorem bu_set (u : List Bool) (i j : Int) (h0 : 0 ≤ i) (h1 : i < u.length) (j0 : 0 ≤ j) : bu (u.set i.toNat true) j = if j = i then true else bu u j := by
  unfold bu
  simp only [List.getD_eq_getElem?_getD, List.getElem?_set]
  by_cases e : j = i
  · subst e; rw [if_pos rfl, if_pos rfl, if_pos (by omega)]; rfl
  · rw [if_neg (by omega), if_neg e]
theorem useful_spec (H0 H : Hp) (k ub : Nat) (vt vl vp vn vd : Value) (g : Gm) (u : List Bool) (h : Kn H0 H k ub [vt, vl, vp, vn, vd] u) (hg : GV H0 vt vl vp vn vd g) (hsh : Shape g) (hu : u.length = g.nn) :
    CallsV Try.prog 22 [.pointer (some ⟨k, 0, none⟩)].toArray H (fun r H' => ∃ u' fresh, r = .bool fresh ∧ Kn H0 H' k ub [vt, vl, vp, vn, vd] u' ∧ u'.length = g.nn ∧ (fresh = true → cntF u' < cntF u) ∧ (fresh = false → u' = u ∧ ∀ p ∈ g.prods, Closed g u p) ∧
      ((∀ A : Int, 0 ≤ A → bu u A = true → Useful g A) → ∀ A : Int, 0 ≤ A → bu u' A = true → Useful g A)) := by
  obtain ⟨bp, op, cap, ra, rb, ro, rc, hvd, hP⟩ := hg.prods hsh.np1
  obtain ⟨at_, ct, al, cl, ap, cp, an, cn, ad, cd, rfl, rfl, rfl, rfl, hvd'⟩ := hg.lens
  subst hvd
  clear hvd'
  have hnp := hsh.np
  have hnt := hsh.nt
  have hnn := hsh.nn
  refine calls_W (m := 40) Try.call22 Try.func22 rfl rfl (by decide +kernel) (by simp) ?_
  first | refine W_regK ?_ | refine W_seq (W_regK ?_)
  intro K hK; simp (maxSteps := 1000000) (disch := omega) only [BOps_nil, BOps_cons, Cont_eq, Bev, rd, ev, updO, wantD, argf, optK_some, ↓reduceIte, List.map, List.toList_toArray, Value.cells]
  have hE := (Ext.refl H).push (row 79 [.pointer (some ⟨k, 0, none⟩)])
  have hb := get_new H (row 79 [.pointer (some ⟨k, 0, none⟩)])
  have h1 := h.grow hE
  generalize hk0 : H.size = kb at *
  generalize H.push _ = H1 at *
  have hkb0 : H0.size ≤ kb := by have := h.ext.size; omega
  have hnek : kb ≠ ub := by have := lt_of_get h.ubb; omega
  clear hE h
  have hkb : ldc H1 ⟨kb, 0, none⟩ = some (.pointer (some ⟨k, 0, none⟩)) := ldc_row hb 0
  have l0 : ldc H1 ⟨k, 0, none⟩ = some (.slice at_ g.nt ct) := by rw [ldc_row h1.kb]; rfl
  refine hK _ _ ?_; clear hK K
  first | refine W_regK ?_ | refine W_seq (W_regK ?_)
  intro K hK; simp (maxSteps := 1000000) (disch := omega) only [BOps_nil, BOps_cons, Cont_eq, Bev, rd, ev, updO, wantD, optK_some, ↓reduceIte, List.map]
  refine hK _ _ ?_; clear hK K
  first | refine W_regK ?_ | refine W_seq (W_regK ?_)
  intro K hK; simp (maxSteps := 1000000) (disch := omega) only [stn_new_i, optH_some, BOps_nil, BOps_cons, Cont_eq, Bev, rd, rdB, ev, updO, upd, wantD, optK_some, optH_some, lenV, Nat.reduceEqDiff, ↓reduceIte, List.map, List.toList_toArray, Value.cells, List.size_toArray, List.length_cons, List.length_nil, Nat.zero_add, Nat.add_zero, hz3, st3, zc3, u22, ld22, fld27_0, fld55_0, ld79, hkb, l0]
  have hE := (Ext.refl H1).push (row 3 [.int .i64 g.nt])
  have ht2 := get_new H1 (row 3 [.int .i64 g.nt])
  have h2 := h1.grow hE
  have hb2 := hE.get hb
  have htb0 : H0.size ≤ H1.size := h1.ext.size
  have hnet : H1.size ≠ ub := by have := lt_of_get h1.ubb; omega
  generalize hk1 : H1.size = tb at *
  generalize H1.push _ = H2 at *
  clear hkb l0 h1 hb hE
  have hkb2 : ldc H2 ⟨kb, 0, none⟩ = some (.pointer (some ⟨k, 0, none⟩)) := ldc_row hb2 0
  have l4 : ldc H2 ⟨k, 4, none⟩ = some (.slice (some ⟨bp, op, none⟩) g.prods.length cap) := by rw [ldc_row h2.kb]; rfl
  refine hK _ _ ?_; clear hK K
  first | refine W_regK ?_ | refine W_seq (W_regK ?_)
  intro K hK; simp (maxSteps := 1000000) (disch := omega) only [BOps_nil, BOps_cons, Cont_eq, Bev, rd, rdB, ev, updO, upd, wantD, optK_some, lenV, Nat.reduceEqDiff, ↓reduceIte, List.map, Nat.zero_add, Nat.add_zero, u25, ld25, fld27_4, fld55_0, ld79, hkb2, l4]
  refine hK _ _ ?_; clear hK K
  clear hkb2 l4
  first | refine W_seq (W_block (W_loop (fun z f H' => ∃ (j : Int) (u' : List Bool) (fresh : Bool), 0 ≤ j ∧ j ≤ g.prods.length ∧ z = g.prods.length - j.toNat ∧ f 1 = .pointer (some ⟨kb, 0, none⟩) ∧ f 3 = .bool fresh ∧ f 4 = .pointer (some ⟨tb, 0, none⟩) ∧ f 17 = .slice (some ⟨bp, op, none⟩) g.prods.length cap ∧ f 18 = .int .i64 g.prods.length ∧ f 19 = .int .i64 j ∧     Kn H0 H' k ub [.slice at_ g.nt ct, .slice al g.lev.length cl, .slice ap g.pats.length cp, .slice an g.nn cn, .slice (some ⟨bp, op, none⟩) g.prods.length cap] u' ∧ H'[tb]? = some (row 3 [.int .i64 g.nt]) ∧ H'[kb]? = some (row 79 [.pointer (some ⟨k, 0, none⟩)]) ∧     u'.length = g.nn ∧ cntF u' ≤ cntF u ∧ (fresh = true → cntF u' < cntF u) ∧ (fresh = false → u' = u ∧ ∀ i : Int, 0 ≤ i → i < j → Closed g u (gp g i)) ∧ ((∀ A : Int, 0 ≤ A → bu u A = true → Useful g A) → ∀ A : Int, 0 ≤ A → bu u' A = true → Useful g A)) g.prods.length ?_ ?_)) | refine W_block (W_loop (fun z f H' => ∃ (j : Int) (u' : List Bool) (fresh : Bool), 0 ≤ j ∧ j ≤ g.prods.length ∧ z = g.prods.length - j.toNat ∧ f 1 = .pointer (some ⟨kb, 0, none⟩) ∧ f 3 = .bool fresh ∧ f 4 = .pointer (some ⟨tb, 0, none⟩) ∧ f 17 = .slice (some ⟨bp, op, none⟩) g.prods.length cap ∧ f 18 = .int .i64 g.prods.length ∧ f 19 = .int .i64 j ∧     Kn H0 H' k ub [.slice at_ g.nt ct, .slice al g.lev.length cl, .slice ap g.pats.length cp, .slice an g.nn cn, .slice (some ⟨bp, op, none⟩) g.prods.length cap] u' ∧ H'[tb]? = some (row 3 [.int .i64 g.nt]) ∧ H'[kb]? = some (row 79 [.pointer (some ⟨k, 0, none⟩)]) ∧     u'.length = g.nn ∧ cntF u' ≤ cntF u ∧ (fresh = true → cntF u' < cntF u) ∧ (fresh = false → u' = u ∧ ∀ i : Int, 0 ≤ i → i < j → Closed g u (gp g i)) ∧ ((∀ A : Int, 0 ≤ A → bu u A = true → Useful g A) → ∀ A : Int, 0 ≤ A → bu u' A = true → Useful g A)) g.prods.length ?_ ?_)
  · exact ⟨0, u, false, by omega, by omega, by omega, by simp [upd], by simp [upd], by simp [upd], by simp [upd], by simp [upd], by simp [upd], h2, ht2, hb2, hu, Nat.le_refl _, by simp, fun _ => ⟨rfl, by omega⟩, fun h => h⟩
  clear h2 ht2 hb2 H2 H1 hk1
  rintro z f H' ⟨j, u', fresh, j0, j1, rfl, g1, g3, g4, g17, g18, g19, hN, ht, hb, hul, hcnt, hfr, hnf, hsnd⟩
  first | refine W_regK ?_ | refine W_seq (W_regK ?_)
  intro K hK; simp (maxSteps := 1000000) (disch := omega) only [BOps_nil, BOps_cons, Cont_eq, Bev, rd, ev, updO, wantD, bin, optK_some, ↓reduceIte, List.map, ne_eq, not_true_eq_false, g18, g19]
  refine hK _ _ ?_; clear hK K
  first | refine W_if (t := _) (by simp only [ev, upd, ↓reduceIte]; rfl) ?_ ?_ | refine W_cond (t := _) (by simp only [ev, upd, argf, Nat.reduceEqDiff, ↓reduceIte, reduceCtorEq]; rfl) ?_ ?_
  · intro hc
    have hlt : j < g.prods.length := by simpa using hc
    have hP' := hP.ext hN.ext
    have hall := hP'.all j j0 hlt
    have hmem := gp_mem j0 hlt
    have hrl := hsh.rl _ hmem
    have hleft := hsh.left _ hmem
    have hsym := hsh.sym _ hmem
    have hrd := hP'.rd j j0 hlt
    refine W_skip ?_; try simp only [thenQ]
    first | refine W_seq (W_block ?_) | refine W_block ?_
    first | refine W_regK ?_ | refine W_seq (W_regK ?_)
    intro K hK; simp (maxSteps := 1000000) (disch := omega) only [stn_new_isii, optH_some, BOps_nil, BOps_cons, Cont_eq, Bev, rd, ev, updO, upd, wantD, optK_some, optH_some, Nat.reduceEqDiff, ↓reduceIte, List.map, List.toList_toArray, inI_pos, Value.cells, Option.map_some, List.size_toArray, List.length_cons, List.length_nil, Nat.reduceAdd, Nat.zero_add, ixk25, hz44, ld44, st44, zc44, g17, g19, hall]
    have hE := (Ext.refl H').push (row 44 [.int .i64 (gp g j).left, .slice (ra j) (gp g j).rhs.length (rc j), .int .i64 (gp g j).ln, .int .i64 (gp g j).lk])
    have hq := get_new H' (row 44 [.int .i64 (gp g j).left, .slice (ra j) (gp g j).rhs.length (rc j), .int .i64 (gp g j).ln, .int .i64 (gp g j).lk])
    have hN := hN.grow hE
    have ht := hE.get ht
    have hb := hE.get hb
    have hrd := RdI.ext hE hrd
    clear hP' hall
    generalize hk1 : H'.size = pb at *
    generalize H'.push _ = H1 at *
    clear hE
    have q0 : ldc H1 ⟨pb, 0, none⟩ = some (.int .i64 (gp g j).left) := ldc_row hq 0
    have q1 : ldc H1 ⟨pb, 1, none⟩ = some (.slice (ra j) (gp g j).rhs.length (rc j)) := ldc_row hq 1
    refine hK _ _ ?_; clear hK K
    first | refine W_regK ?_ | refine W_seq (W_regK ?_)
    intro K hK; simp (maxSteps := 1000000) (disch := omega) only [BOps_cons, Cont_eq, Bev, rd, ev, updO, upd, wantD, optK_some, Nat.reduceEqDiff, ↓reduceIte, List.map, List.map_toArray, List.append_toArray, List.append_nil, List.nil_append, Nat.zero_add, ld28, fld44_1, q1, g1, g4]
    refine (contains_int H1 _ _ 31 _ _ (fun i => decide (gi (gp g j).rhs i ≥ g.nt) && !bu u' (gi (gp g j).rhs i - g.nt)) hrd (by simp; omega) ?_).mono ?_
    · intro H3 hE3 i hi
      have hi' : i < (gp g j).rhs.length := by simpa using hi
      have hN3 := hN.grow hE3
      have hsy := hsym _ (List.getElem_mem hi')
      have e : (List.map iv (gp g j).rhs)[i]'hi = iv (gi (gp g j).rhs i) := by rw [List.getElem_map, gi_nat _ _ hi']
      rw [e]
      refine (useful1_spec H0 H3 k ub tb kb g.nt _ _ _ _ _ u' (gi (gp g j).rhs i) hN3 (ldc_row (hE3.get ht) 0) (ldc_row (hE3.get hb) 0) ?_ (by omega) (by omega)).mono ?_
      · rw [gi_nat _ _ hi']; omega
      · rintro r H4 ⟨rfl, rfl⟩; exact ⟨rfl, .refl _⟩
    rintro r H3 ⟨hE3, b, rfl, hbb⟩
    have hN := hN.grow hE3
    have ht := hE3.get ht
    have hb := hE3.get hb
    have hq := hE3.get hq
    clear q0 q1 hrd
    have q0 : ldc H3 ⟨pb, 0, none⟩ = some (.int .i64 (gp g j).left) := ldc_row hq 0
    have hkb : ldc H3 ⟨kb, 0, none⟩ = some (.pointer (some ⟨k, 0, none⟩)) := ldc_row hb 0
    have l5 : ldc H3 ⟨k, 5, none⟩ = some (.slice (some ⟨ub, 0, none⟩) u'.length u'.length) := by rw [ldc_row hN.kb]; rfl
    simp (maxSteps := 1000000) (disch := omega) only [BOps_nil, BOps_cons, Cont_eq, Bev, rd, ev, updO, upd, wantD, optK_some, ↓reduceIte]
    refine hK _ _ ?_; clear hK K
    have hb3 : b = false ↔ ∀ s ∈ (gp g j).rhs, s ≥ (g.nt : Int) → bu u' (s - g.nt) = true := by
      rw [← Bool.not_eq_true, hbb]
      constructor
      · intro h s hs hge
        obtain ⟨i, hi, rfl⟩ := List.getElem_of_mem hs
        refine Classical.byContradiction fun hn => h ⟨i, by simpa using hi, ?_⟩
        rw [gi_nat _ _ hi]
        simp at hn ⊢; exact ⟨hge, hn⟩
      · rintro h ⟨i, hi, hp⟩
        have hi' : i < (gp g j).rhs.length := by simpa using hi
        rw [gi_nat _ _ hi'] at hp
        simp at hp
        have := h _ (List.getElem_mem hi') hp.1
        rw [this] at hp; simp at hp
    first | refine W_if (t := _) (by simp only [ev]; rfl) ?_ ?_ | refine W_cond (t := _) (by simp only [ev, upd, ↓reduceIte]; rfl) ?_ ?_
    · intro hnb
      have hbf : b = false := by simpa using hnb
      have hrh := hb3.1 hbf
      cases hbl : bu u' (gp g j).left
      · refine W_chain 6 mixed (by decide +kernel) (by decide +kernel) ?_; simp (maxSteps := 1000000) (disch := omega) only [List.take_succ_cons, List.take_zero, List.drop_succ_cons, List.drop_zero, optQ_some, QOps_nil, QOps_cons, QCont_eq, QBev, rq, BOps_cons, Bev, rd, ev, updO, upd, wantD, Nat.reduceEqDiff, ↓reduceIte, List.map, List.map_toArray, List.append_toArray, List.append_nil, List.nil_append, Nat.zero_add, Nat.add_zero, ld3, fld44_0, ld52, fld55_1, ld79, g1, hkb, l5, q0]
        refine (learn_spec H3 ub u'.length u' (gp g j).left hN.ubb hleft.1 (by omega)).mono ?_
        rintro r H4 ⟨rfl, rfl⟩
        simp (maxSteps := 1000000) (disch := omega) only [BOps_nil, BOps_cons, Cont_eq, Bev, rd, ev, updO, upd, wantD, List.getElem?_cons_succ, List.getElem?_cons_zero, vtf, Bool.not_false, optK_some, Nat.reduceEqDiff, ↓reduceIte, Bool.false_eq_true, hbl]
        simp only [thenQ, blockQ]
        refine W_reg ?_; simp (maxSteps := 1000000) (disch := omega) only [BOps_nil, BOps_cons, Cont_eq, Bev, rd, ev, updO, upd, wantD, bin, optK_some, Nat.reduceEqDiff, ↓reduceIte, List.map, ne_eq, not_true_eq_false, wrapi, g19]
        simp only [thenQ]
        have hl2 : (u'.set (gp g j).left.toNat true).length = u'.length := by simp
        have hcs := cntF_set u' (gp g j).left.toNat (by
          have : (gp g j).left.toNat < u'.length := by omega
          rw [List.getElem?_eq_getElem this]; simpa [bu, this] using hbl)
        refine ⟨g.prods.length - (j + 1).toNat, by omega, j + 1, _, true, by omega, by omega, rfl, by simp [upd, g1], by simp [upd], by simp [upd, g4], by simp [upd, g17], by simp [upd, g18], by simp [upd], hN.set _ hl2, by rw [get_set_ne (fun e => hnet e.symm)]; exact ht, by rw [get_set_ne (fun e => hnek e.symm)]; exact hb, by omega, by omega, fun _ => by omega, by simp, ?_⟩
        intro hs A hA hu'
        rw [bu_set u' _ A hleft.1 (by omega) hA] at hu'
        split at hu'
        · rename_i e; rw [e]
          exact .mk _ hmem fun s hs' hge => hsnd hs _ (by omega) (hrh s hs' hge)
        · exact hsnd hs A hA hu'
      · refine W_chain 6 mixed (by decide +kernel) (by decide +kernel) ?_; simp (maxSteps := 1000000) (disch := omega) only [List.take_succ_cons, List.take_zero, List.drop_succ_cons, List.drop_zero, optQ_some, QOps_nil, QOps_cons, QCont_eq, QBev, rq, BOps_cons, Bev, rd, ev, updO, upd, wantD, Nat.reduceEqDiff, ↓reduceIte, List.map, List.map_toArray, List.append_toArray, List.append_nil, List.nil_append, Nat.zero_add, Nat.add_zero, ld3, fld44_0, ld52, fld55_1, ld79, g1, hkb, l5, q0]
        refine (learn_spec H3 ub u'.length u' (gp g j).left hN.ubb hleft.1 (by omega)).mono ?_
        rintro r H4 ⟨rfl, rfl⟩
        simp (maxSteps := 1000000) (disch := omega) only [BOps_nil, BOps_cons, Cont_eq, Bev, rd, ev, updO, upd, wantD, List.getElem?_cons_succ, List.getElem?_cons_zero, vff, Bool.not_true, optK_some, Nat.reduceEqDiff, ↓reduceIte, Bool.false_eq_true, hbl, g3]
        simp only [thenQ, blockQ]
        refine W_reg ?_; simp (maxSteps := 1000000) (disch := omega) only [BOps_nil, BOps_cons, Cont_eq, Bev, rd, ev, updO, upd, wantD, bin, optK_some, Nat.reduceEqDiff, ↓reduceIte, List.map, ne_eq, not_true_eq_false, wrapi, g19]
        simp only [thenQ]
        have hl2 : u'.set (gp g j).left.toNat true = u' := by
          have : (gp g j).left.toNat < u'.length := by omega
          have h2 : u'[(gp g j).left.toNat] = true := by simpa [bu, this] using hbl
          rw [← h2]; simp
        refine ⟨g.prods.length - (j + 1).toNat, by omega, j + 1, u', fresh, by omega, by omega, rfl, by simp [upd, g1], by simp [upd], by simp [upd, g4], by simp [upd, g17], by simp [upd, g18], by simp [upd], by rw [hl2]; exact hN.set _ rfl, by rw [get_set_ne (fun e => hnet e.symm)]; exact ht, by rw [get_set_ne (fun e => hnek e.symm)]; exact hb, by omega, by omega, hfr, ?_, hsnd⟩
        intro hf
        obtain ⟨rfl, hcl⟩ := hnf hf
        refine ⟨rfl, fun i i0 i1 => ?_⟩
        by_cases e : i = j
        · subst e; exact fun _ => hbl
        · exact hcl i i0 (by omega)
    · intro hnb
      have hbt : b = true := by simpa using hnb
      refine W_skip ?_; try simp only [thenQ, blockQ]
      refine W_reg ?_; simp (maxSteps := 1000000) (disch := omega) only [BOps_nil, BOps_cons, Cont_eq, Bev, rd, ev, updO, upd, wantD, bin, optK_some, Nat.reduceEqDiff, ↓reduceIte, List.map, ne_eq, not_true_eq_false, wrapi, g19]
      simp only [thenQ]
      refine ⟨g.prods.length - (j + 1).toNat, by omega, j + 1, u', fresh, by omega, by omega, rfl, by simp [upd, g1], by simp [upd, g3], by simp [upd, g4], by simp [upd, g17], by simp [upd, g18], by simp [upd], hN, ht, hb, by omega, by omega, hfr, ?_, hsnd⟩
      intro hf
      obtain ⟨rfl, hcl⟩ := hnf hf
      refine ⟨rfl, fun i i0 i1 => ?_⟩
      by_cases e : i = j
      · subst e; exact fun hh => by have := hb3.2 hh; rw [hbt] at this; simp at this
      · exact hcl i i0 (by omega)
  · intro hc
    have hge : j = g.prods.length := by simp at hc; omega
    subst hge
    refine W_exit ?_; simp only [thenQ, blockQ, ↓reduceIte]
    first | refine W_regK ?_ | refine W_seq (W_regK ?_)
    intro K hK; simp (maxSteps := 1000000) (disch := omega) only [BOps_nil, BOps_cons, Cont_eq, Bev, rd, ev, updO, upd, wantD, optK_some, Nat.reduceEqDiff, ↓reduceIte, List.map, g3]
    refine hK _ _ ?_; clear hK K
    refine W_ret ?_; simp only [retQ, Try.results22, resV1, Option.some.injEq, exists_eq_left', upd, ↓reduceIte, List.toList_toArray]
    refine ⟨u', fresh, rfl, hN, hul, hfr, fun h => ⟨(hnf h).1, fun p hp => ?_⟩, hsnd⟩
    obtain ⟨i, i0, i1, rfl⟩ := mem_gp hp
    exact (hnf h).2 i i0 i1
end Go.Proofs.Yteheedbhmggcgaa
