import Derived.Test.YteheedbhmggcgaaEH
import Derived.Test.YteheedbhmggcgaaVyK
namespace Go.Proofs.Yteheedbhmggcgaa
open Go Go.Vy Go.Proofs
set_option linter.unusedSimpArgs false
set_option linter.unusedVariables false
theorem aget_touch_some {z : Value} {a : It} {l : List (It × Value)} : ∃ v, aget (atouch z a l) a = some v ∧ v = (aget l a).getD z := by
  unfold atouch
  split
  · rename_i h
    rw [← aput_none h, aget_aput, if_pos rfl, h]; exact ⟨_, rfl, rfl⟩
  · rename_i v h; exact ⟨v, h, by rw [h]; rfl⟩
/-- The value of a key, in numbers. -/
theorem MI.val {W : Ways} {l : List (It × Value)} (h : ∀ a, (aget l a = none ∧ W a = 0) ∨ aget l a = some (iv (W a))) (a : It) : (aget l a).getD (iv 0) = iv (W a) := by
  rcases h a with ⟨h4, h5⟩ | h4
  · rw [h4, h5]; rfl
  · rw [h4]; rfl
theorem MI.puts {W : Ways} {l : List (It × Value)} (h2 : (l.map (·.1)).Nodup) (h : ∀ a, (aget l a = none ∧ W a = 0) ∨ aget l a = some (iv (W a))) (a : It) (v : Int) :
    ((aput a (iv v) l).map (·.1)).Nodup ∧ ∀ b, (aget (aput a (iv v) l) b = none ∧ (if b = a then v else W b) = 0) ∨ aget (aput a (iv v) l) b = some (iv (if b = a then v else W b)) := by
  refine ⟨nodup_aput h2, fun b => ?_⟩
  rw [aget_aput]
  by_cases e : b = a
  · rw [if_pos e, if_pos e]; exact .inr rfl
  · rw [if_neg e, if_neg e]; exact h b
theorem lk_touch {H : Hp} {m : Nat} {l : List (It × Value)} {W : Ways} {a : It} (hm : H[m]? = some (mobj encIt l) ∨ H[m]? = some (mobj encIt (atouch (iv 0) a l))) (h : ∀ a, (aget l a = none ∧ W a = 0) ∨ aget l a = some (iv (W a))) :
    lkp Try.prog 71 (.map (some m)) (.agg #[.int .i64 a.p, .int .i64 a.d, .int .i64 a.f]) false H = some (.int .i64 (W a)) := by
  have hv := MI.val h a
  rcases hm with hm | hm
  · refine (lkp_mobj (ok := false) key75 u71 hz3 hm a).trans ?_
    simp only [lkv, zv3, Bool.false_eq_true, if_false]
    exact congrArg some hv
  · refine (lkp_mobj (ok := false) key75 u71 hz3 hm a).trans ?_
    simp only [lkv, zv3, Bool.false_eq_true, if_false]
    rw [aget_touch]
    exact congrArg some hv
/-- One round of 'grow': all pieces that begin at a place. -/
def sumA (g : Gm) (ks : List Int) (W : Ways) (a : Nat) : Ways := fun x => if x.d = a ∧ 0 ≤ x.f ∧ x.f ≤ ks.length then opW g ks W x else 0
def upA (g : Gm) (ks : List Int) (W : Ways) (a : Nat) : Ways := fun x => max (W x) (mn (sumA g ks W a x))
def upD (g : Gm) (ks : List Int) : Nat → Ways → Ways
  | 0, W => W
  | k + 1, W => upD g ks k (upA g ks W k)
/-- The sums, productions below k, the k-th one's ends below j. -/
def part (g : Gm) (ks : List Int) (W : Ways) (a k j : Nat) : Ways := fun x => if x.d = a ∧ 0 ≤ x.f ∧ x.f ≤ ks.length then sumP g ks W x (g.prods.take k) + (if x.f < j then opP g ks W x (gp g k) else 0) else 0
theorem part_zero (g : Gm) (ks : List Int) (W : Ways) (a : Nat) (x : It) : part g ks W a 0 0 x = 0 := by
  unfold part; split
  · rename_i h; rw [if_neg (by omega)]; simp [sumP]
  · rfl
theorem part_next {g : Gm} {ks : List Int} {W : Ways} {a k : Nat} (hk : k < g.prods.length) : part g ks W a k (ks.length + 1) = part g ks W a (k + 1) 0 := by
  funext x
  unfold part
  by_cases h : x.d = a ∧ 0 ≤ x.f ∧ x.f ≤ ks.length
  · rw [if_pos h, if_pos h, if_pos (by omega), if_neg (by omega), List.take_add_one, List.getElem?_eq_getElem hk, sumP_append, gp_nat g k hk]
    simp [sumP]
  · rw [if_neg h, if_neg h]
theorem part_all (g : Gm) (ks : List Int) (W : Ways) (a : Nat) : part g ks W a g.prods.length 0 = sumA g ks W a := by
  funext x
  unfold part sumA opW
  by_cases h : x.d = a ∧ 0 ≤ x.f ∧ x.f ≤ ks.length
  · rw [if_pos h, if_pos h, if_neg (by omega), List.take_length, Int.add_zero]
  · rw [if_neg h, if_neg h]
theorem part_step {g : Gm} {ks : List Int} {W : Ways} {a k j : Nat} (hj : j ≤ ks.length) (x : It) : part g ks W a k (j + 1) x = if x = ⟨(gp g k).left, a, j⟩ then part g ks W a k j x + rowf g ks W (gp g k).rhs (unit a) j else part g ks W a k j x := by
  unfold part
  by_cases e : x = ⟨(gp g k).left, a, j⟩
  · subst e
    rw [if_pos rfl]
    simp only []
    have c1 : (True ∧ (0 : Int) ≤ j ∧ (j : Int) ≤ ks.length) := ⟨trivial, by omega, by omega⟩
    have c2 : (j : Int) < ((j + 1 : Nat) : Int) := by omega
    have c3 : ¬ (j : Int) < (j : Int) := by omega
    rw [if_pos c1, if_pos c1, if_pos c2, if_neg c3]
    unfold opP
    simp only [if_true, Int.toNat_natCast]
    omega
  · rw [if_neg e]
    by_cases h : x.d = a ∧ 0 ≤ x.f ∧ x.f ≤ ks.length
    · rw [if_pos h, if_pos h]
      congr 1
      by_cases e2 : x.f < j
      · rw [if_pos e2, if_pos (by omega)]
      · rw [if_neg e2]
        by_cases e3 : x.f = j
        · rw [if_pos (by omega)]
          unfold opP
          rw [if_neg]
          intro e4
          apply e
          obtain ⟨xp, xd, xf⟩ := x
          simp only at *
          rw [e4, h.1, e3]
        · rw [if_neg (by omega)]
    · rw [if_neg h, if_neg h]
theorem part_bd {g : Gm} {ks : List Int} {W : Ways} (hw : WOk W) (a k j : Nat) (x : It) : 0 ≤ part g ks W a k j x ∧ part g ks W a k j x ≤ 2 * k + 2 := by
  unfold part
  split
  · have h1 := sumP_nonneg (g := g) (ks := ks) hw x (g.prods.take k)
    have h2 := sumP_le (g := g) (ks := ks) hw x (g.prods.take k)
    have h3 := opP_ok (g := g) (ks := ks) hw x (gp g k)
    have h4 : (g.prods.take k).length ≤ k := by simp; omega
    split <;> omega
  · omega
theorem upA_ok {g : Gm} {ks : List Int} {W : Ways} (hw : WOk W) (a : Nat) : WOk (upA g ks W a) := by
  refine ⟨fun x => ?_, fun x => ?_⟩
  · unfold upA; have := hw.lo x; omega
  · unfold upA; have := hw.hi x; have := mn_le (sumA g ks W a x); omega
section
variable {H0 H H' : Hp} {c m : Nat} {cs : List Value} {W : Ways}
theorem Ct.setOff (h : Ct H0 H c m cs W) {b : Nat} (hb : H0.size ≤ b) (h1 : b ≠ c) (h2 : b ≠ m) (x : Obj) : Ct H0 (H.setIfInBounds b x) c m cs W :=
  ⟨h.ext.set hb x, h.hc, h.hm, by rw [get_set_ne h1]; exact h.cb, h.mi.keep (get_set_ne h2 x), h.ok⟩
end
def PhiG (sb pb : Nat) (key : It) (v : Int) (S : Ways) (l : List (It × Value)) : Fact
  | 0, x, _, _, _ => x = .map (some sb)
  | 1, x, _, _, _ => x = .pointer (some ⟨pb, 0, none⟩)
  | 2, x, _, _, _ => x = .int .i64 key.p
  | 3, x, _, _, _ => x = .int .i64 key.d
  | 4, x, _, _, _ => x = .int .i64 key.f
  | 5, x, _, _, _ => x = .agg #[.int .i64 key.p, .int .i64 key.d, .int .i64 key.f]
  | 6, x, _, _, _ => x = .int .i64 (S key)
  | 7, x, _, _, _ => x = .int .i64 v
  | 8, x, _, _, _ => x = .int .i64 (S key + v)
  | 9, x, _, _, H => (∃ y, x = .tuple #[y, .int .i64 (apos key l)]) ∧ H[sb]? = some (mobj encIt (atouch (iv 0) key l))
  | 10, x, _, _, _ => x = .int .i64 (apos key l)
  | _, _, _, _, _ => True
def PhiH (c m kb : Nat) (key : It) (v : Int) (l : List (It × Value)) : Fact
  | 0, x, _, _, _ | 1, x, _, _, _ => x = .pointer (some ⟨c, 0, none⟩)
  | 2, x, _, _, _ => x = .pointer (some ⟨c, 6, none⟩)
  | 3, x, _, _, _ => x = .map (some m)
  | 4, x, _, _, _ => x = .agg #[.int .i64 key.p, .int .i64 key.d, .int .i64 key.f]
  | 5, x, _, _, _ => x = .int .i64 v
  | 6, x, _, _, H => (∃ y, x = .tuple #[y, .int .i64 (apos key l)]) ∧ H[m]? = some (mobj encIt (atouch (iv 0) key l))
  | 7, x, _, _, _ => x = .int .i64 (apos key l)
  | _, _, _, _, _ => True
set_option maxRecDepth 100000 in
theorem cgrow_spec (H0 H : Hp) (c m : Nat) (cs : List Value) (W : Ways) (g : Gm) (ks : List Int) (h : Ct H0 H c m cs W) (hd : Hd H0 cs g ks) :
    CallsV Try.prog 26 [.pointer (some ⟨c, 0, none⟩)].toArray H (fun r H' => ∃ fr : Bool, r = .bool fr ∧ Ct H0 H' c m cs (upD g ks (ks.length + 1) W) ∧ (∀ x, W x ≤ upD g ks (ks.length + 1) W x) ∧ (fr = true ↔ ∃ x, W x < upD g ks (ks.length + 1) W x)) := by
  have hsh := hd.sh
  have hkl := hd.kl
  have hnt := hsh.nt
  have hnn := hsh.nn
  have hnp := hsh.np
  have hd' := hd
  obtain ⟨vt, vl, vp, vn, vd, vk, at_, ct, bp, op, cap, ra, rb, ro, rc, hcs, ho⟩ := hd.opn
  obtain ⟨rfl, rfl, hP, hk⟩ := ho
  obtain ⟨ak, ck, rfl⟩ := hk.opn'
  have heads : ∀ H' V, Ct H0 H' c m cs V → ldc H' ⟨c, 4, none⟩ = some (.slice (some ⟨bp, op, none⟩) g.prods.length cap) ∧ ldc H' ⟨c, 5, none⟩ = some (.slice ak ks.length ck) ∧ ldc H' ⟨c, 6, none⟩ = some (.map (some m)) := by
    intro H' V e
    have := e.cb
    rw [hcs] at this
    refine ⟨?_, ?_, ?_⟩ <;> (rw [ldc_row this]; rfl)
  refine calls_W (m := 82) Try.call26 Try.func26 rfl rfl (by decide +kernel) (by simp) ?_
  first | refine W_regK ?_ | refine W_seq (W_regK ?_)
  intro K hK; simp (maxSteps := 1000000) (disch := omega) only [BOps_nil, BOps_cons, Cont_eq, Bev, rd, ev, updO, wantD, optK_some, ↓reduceIte, List.map]
  refine hK _ _ ?_; clear hK K
  first | refine W_regK ?_ | refine W_seq (W_regK ?_)
  intro K hK; simp (maxSteps := 1000000) (disch := omega) only [BOps_nil, BOps_cons, Cont_eq, Bev, rd, ev, updO, wantD, optK_some, ↓reduceIte, List.map]
  refine hK _ _ ?_; clear hK K
  obtain ⟨l4, l5, l6⟩ := heads H W h
  first | refine W_regK ?_ | refine W_seq (W_regK ?_)
  intro K hK; simp (maxSteps := 1000000) (disch := omega) only [BOps_nil, BOps_cons, Cont_eq, Bev, rd, rdB, ev, updO, upd, wantD, argf, optK_some, lenV, ↓reduceIte, List.map, reduceCtorEq, Nat.zero_add, u28, ld28, fld73_1, l5]
  refine hK _ _ ?_; clear hK K
  first | refine W_seq (W_block (W_loop (fun z f H' => ∃ (a : Nat) (V : Ways) (fr : Bool), a ≤ ks.length + 1 ∧ z = a ∧ f 0 = .pointer (some ⟨c, 0, none⟩) ∧ f 3 = .bool fr ∧ f 4 = .int .i64 ((a : Int) - 1) ∧ Ct H0 H' c m cs V ∧ (∀ x, W x ≤ V x) ∧ (fr = true ↔ ∃ x, W x < V x) ∧ upD g ks a V = upD g ks (ks.length + 1) W) (ks.length + 1) ?_ ?_)) | refine W_block (W_loop (fun z f H' => ∃ (a : Nat) (V : Ways) (fr : Bool), a ≤ ks.length + 1 ∧ z = a ∧ f 0 = .pointer (some ⟨c, 0, none⟩) ∧ f 3 = .bool fr ∧ f 4 = .int .i64 ((a : Int) - 1) ∧ Ct H0 H' c m cs V ∧ (∀ x, W x ≤ V x) ∧ (fr = true ↔ ∃ x, W x < V x) ∧ upD g ks a V = upD g ks (ks.length + 1) W) (ks.length + 1) ?_ ?_)
  · exact ⟨ks.length + 1, W, false, by omega, by omega, by simp [upd, argf], by simp [upd], by simp [upd], h, fun x => Int.le_refl _, ⟨fun e => (by cases e), fun ⟨x, hx⟩ => (by omega)⟩, rfl⟩
  clear l4 l5 l6
  rintro a1 f H1 ⟨_, V, fr, ha1, rfl, g0, g3, g4, hc1, hWV, hfr, hup⟩
  first | refine W_regK ?_ | refine W_seq (W_regK ?_)
  intro K hK; simp (maxSteps := 1000000) (disch := omega) only [BOps_nil, BOps_cons, Cont_eq, Bev, rd, ev, updO, upd, wantD, bin, optK_some, ↓reduceIte, List.map, ne_eq, not_true_eq_false, g4]
  refine hK _ _ ?_; clear hK K
  first | refine W_if (t := _) (by simp only [ev]; rfl) ?_ ?_ | refine W_cond (t := _) (by simp only [ev, upd, ↓reduceIte]; rfl) ?_ ?_
  rotate_left
  · intro hc
    have hge : a1 = 0 := by have : ¬ ((a1 : Int) - 1 ≥ 0) := by simpa using hc
                            omega
    subst hge
    refine W_exit ?_; simp only [thenQ, blockQ, ↓reduceIte]
    first | refine W_regK ?_ | refine W_seq (W_regK ?_)
    intro K hK; simp (maxSteps := 1000000) (disch := omega) only [BOps_nil, BOps_cons, Cont_eq, Bev, rd, ev, updO, upd, wantD, optK_some, Nat.reduceEqDiff, ↓reduceIte, List.map, g3]
    refine hK _ _ ?_; clear hK K
    refine W_ret ?_; simp only [retQ, Try.results26, resV1, Option.some.injEq, exists_eq_left', upd, ↓reduceIte, List.toList_toArray]
    rw [← hup]
    exact ⟨fr, rfl, hc1, hWV, hfr⟩
  intro hc
  have hpos : (a1 : Int) - 1 ≥ 0 := by simpa using hc
  obtain ⟨a, rfl⟩ : ∃ a, a1 = a + 1 := ⟨a1 - 1, by omega⟩
  have ea : ((a + 1 : Nat) : Int) - 1 = a := by omega
  rw [ea] at g4
  have hwok := hc1.ok
  have hwlo := hwok.lo
  have hwhi := hwok.hi
  refine W_skip ?_; try simp only [thenQ]
  first | refine W_seq (W_block ?_) | refine W_block ?_
  first | refine W_regK ?_ | refine W_seq (W_regK ?_)
  intro K hK; simp (maxSteps := 1000000) (disch := omega) only [BOps_nil, BOps_cons, Cont_eq, Bev, rd, ev, updO, upd, wantD, optK_some, ↓reduceIte, List.map]
  have hc2 := hc1.grow ((Ext.refl H1).push (.map #[] 0))
  have hs2 := get_new H1 (.map #[] 0)
  have hsb0 := hc1.ext.size
  have hsbc : H1.size ≠ c := by have := lt_of_get hc1.cb; omega
  have hsbm : H1.size ≠ m := by have := hc1.mi.lt; omega
  generalize hk1 : H1.size = sb at *
  generalize H1.push _ = H2 at *
  have hsI : MI H2 sb (part g ks V a 0 0) := ⟨[], hs2, by simp, fun x => .inl ⟨rfl, part_zero g ks V a x⟩⟩
  refine hK _ _ ?_; clear hK K
  obtain ⟨l4, l5, l6⟩ := heads H2 V hc2
  first | refine W_regK ?_ | refine W_seq (W_regK ?_)
  intro K hK; simp (maxSteps := 1000000) (disch := omega) only [BOps_nil, BOps_cons, Cont_eq, Bev, rd, rdB, ev, updO, upd, wantD, optK_some, lenV, ↓reduceIte, List.map, reduceCtorEq, Nat.zero_add, Nat.add_zero, u25, ld25, fld27_4, fld73_0, g0, l4]
  refine hK _ _ ?_; clear hK K
  first | refine W_seq (W_block (W_loop (fun z f H' => ∃ k : Nat, k ≤ g.prods.length ∧ z = g.prods.length - k ∧ f 0 = .pointer (some ⟨c, 0, none⟩) ∧ f 3 = .bool fr ∧ f 4 = .int .i64 a ∧ f 5 = .map (some sb) ∧ f 26 = .slice (some ⟨bp, op, none⟩) g.prods.length cap ∧ f 27 = .int .i64 g.prods.length ∧ f 28 = .int .i64 k ∧ Ct H0 H' c m cs V ∧ MI H' sb (part g ks V a k 0)) g.prods.length ?_ ?_)) | refine W_block (W_loop (fun z f H' => ∃ k : Nat, k ≤ g.prods.length ∧ z = g.prods.length - k ∧ f 0 = .pointer (some ⟨c, 0, none⟩) ∧ f 3 = .bool fr ∧ f 4 = .int .i64 a ∧ f 5 = .map (some sb) ∧ f 26 = .slice (some ⟨bp, op, none⟩) g.prods.length cap ∧ f 27 = .int .i64 g.prods.length ∧ f 28 = .int .i64 k ∧ Ct H0 H' c m cs V ∧ MI H' sb (part g ks V a k 0)) g.prods.length ?_ ?_)
  · exact ⟨0, by omega, by omega, by simp [upd, g0], by simp [upd, g3], by simp [upd, g4], by simp [upd], by simp [upd], by simp [upd], by simp [upd], hc2, hsI⟩
  clear hc2 hs2 hsI g0 g3 g4 l4 l5 l6 hc1 hk1 H1 H2
  · rintro z f2 H3 ⟨k, hk1, rfl, g0, g3, g4, g5, g26, g27, g28, hc3, hs3⟩
    first | refine W_regK ?_ | refine W_seq (W_regK ?_)
    intro K hK; simp (maxSteps := 1000000) (disch := omega) only [BOps_nil, BOps_cons, Cont_eq, Bev, rd, ev, updO, wantD, bin, optK_some, ↓reduceIte, List.map, ne_eq, not_true_eq_false, g27, g28]
    refine hK _ _ ?_; clear hK K
    first | refine W_if (t := _) (by simp only [ev, upd, ↓reduceIte]; rfl) ?_ ?_ | refine W_cond (t := _) (by simp only [ev, upd, argf, Nat.reduceEqDiff, ↓reduceIte, reduceCtorEq]; rfl) ?_ ?_
    · intro hc
      have hkl2 : k < g.prods.length := by simpa using hc
      have hP3 := hP.ext hc3.ext
      have hall := hP3.all k (by omega) (by omega)
      rw [Int.toNat_natCast] at hall
      have hleft := hsh.left _ (gp_mem (g := g) (j := k) (by omega) (by omega))
      have hsym := hsh.sym _ (gp_mem (g := g) (j := k) (by omega) (by omega))
      have hrl := hsh.rl _ (gp_mem (g := g) (j := k) (by omega) (by omega))
      refine W_skip ?_; try simp only [thenQ]
      first | refine W_seq (W_block ?_) | refine W_block ?_
      first | refine W_regK ?_ | refine W_seq (W_regK ?_)
      intro K hK; simp (maxSteps := 1000000) (disch := omega) only [stn_new_isii, optH_some, BOps_nil, BOps_cons, Cont_eq, Bev, rd, ev, updO, upd, wantD, optK_some, optH_some, Nat.reduceEqDiff, ↓reduceIte, List.map, List.toList_toArray, inI_pos, Value.cells, Option.map_some, List.size_toArray, List.length_cons, List.length_nil, Nat.reduceAdd, Nat.zero_add, ixk25, hz44, ld44, st44, zc44, g26, g28, Int.toNat_natCast, hall]
      have hEq := (Ext.refl H3).push (row 44 [.int .i64 (gp g k).left, .slice (ra k) (gp g k).rhs.length (rc k), .int .i64 (gp g k).ln, .int .i64 (gp g k).lk])
      have hq := get_new H3 (row 44 [.int .i64 (gp g k).left, .slice (ra k) (gp g k).rhs.length (rc k), .int .i64 (gp g k).ln, .int .i64 (gp g k).lk])
      have hc4 := hc3.grow hEq
      have hs4 := hs3.ext hEq
      have hpbs : H3.size ≠ sb := by have := hs3.lt; omega
      have hpb0 := hc3.ext.size
      have hpbm : H3.size ≠ m := by have := hc3.mi.lt; omega
      generalize hk2 : H3.size = pb at *
      generalize H3.push _ = H4 at *
      have q1 : ldc H4 ⟨pb, 1, none⟩ = some (.slice (ra k) (gp g k).rhs.length (rc k)) := ldc_row hq 1
      have hrd := (hP.ext hc4.ext).rd k (by omega) (by omega)
      refine hK _ _ ?_; clear hK K
      first | refine W_regK ?_ | refine W_seq (W_regK ?_)
      intro K hK; simp (maxSteps := 1000000) (disch := omega) only [BOps_cons, Cont_eq, Bev, rd, ev, updO, upd, wantD, optK_some, Nat.reduceEqDiff, ↓reduceIte, List.map, List.map_toArray, reduceCtorEq, List.append_toArray, List.append_nil, List.nil_append, Nat.zero_add, ld28, fld44_1, g0, g4, q1]
      refine (crow_spec H0 H4 c m cs V g ks hc4 hd' _ (gp g k).rhs hrd hrl (fun s hs => ⟨(hsym s hs).1, (hsym s hs).2.1⟩) a (by omega)).mono ?_
      rintro r H5 ⟨hE5, wb, hwb, rfl, hrow⟩
      have hc5 := hc4.grow hE5
      have hs5 := hs4.ext hE5
      have hq5 := hE5.get hq
      have hwb0 : H4.size ≤ wb := hwb
      have hwsb : wb ≠ sb := by have := hs4.lt; omega
      try simp (maxSteps := 1000000) (disch := omega) only [BOps_nil, BOps_cons, Cont_eq, Bev, rd, rdB, ev, updO, upd, wantD, optK_some, lenV, ↓reduceIte, List.map, u28]
      refine hK _ _ ?_; clear hK K
      have hRok := rowf_ok (g := g) (ks := ks) hwok (gp g k).rhs (unit_ok a)
      generalize hnow : rowf g ks V (gp g k).rhs (unit a) = now at *
      have hnlo := hRok.lo
      have hnhi := hRok.hi
      first | refine W_seq (W_block (W_loop (fun z f H' => ∃ j : Nat, j ≤ ks.length + 1 ∧ z = ks.length + 1 - j ∧ f 0 = .pointer (some ⟨c, 0, none⟩) ∧ f 3 = .bool fr ∧ f 4 = .int .i64 a ∧ f 5 = .map (some sb) ∧ f 7 = .pointer (some ⟨pb, 0, none⟩) ∧ f 26 = .slice (some ⟨bp, op, none⟩) g.prods.length cap ∧ f 27 = .int .i64 g.prods.length ∧ f 28 = .int .i64 k ∧ f 36 = .slice (some ⟨wb, 0, none⟩) (ks.length + 1) (ks.length + 1) ∧ f 37 = .int .i64 ((ks.length : Int) + 1) ∧ f 38 = .int .i64 j ∧ Ct H0 H' c m cs V ∧ MI H' sb (part g ks V a k j) ∧ H'[pb]? = some (row 44 [.int .i64 (gp g k).left, .slice (ra k) (gp g k).rhs.length (rc k), .int .i64 (gp g k).ln, .int .i64 (gp g k).lk]) ∧ H'[wb]? = some (row 3 (tb ks.length now))) (ks.length + 1) ?_ ?_)) | refine W_block (W_loop (fun z f H' => ∃ j : Nat, j ≤ ks.length + 1 ∧ z = ks.length + 1 - j ∧ f 0 = .pointer (some ⟨c, 0, none⟩) ∧ f 3 = .bool fr ∧ f 4 = .int .i64 a ∧ f 5 = .map (some sb) ∧ f 7 = .pointer (some ⟨pb, 0, none⟩) ∧ f 26 = .slice (some ⟨bp, op, none⟩) g.prods.length cap ∧ f 27 = .int .i64 g.prods.length ∧ f 28 = .int .i64 k ∧ f 36 = .slice (some ⟨wb, 0, none⟩) (ks.length + 1) (ks.length + 1) ∧ f 37 = .int .i64 ((ks.length : Int) + 1) ∧ f 38 = .int .i64 j ∧ Ct H0 H' c m cs V ∧ MI H' sb (part g ks V a k j) ∧ H'[pb]? = some (row 44 [.int .i64 (gp g k).left, .slice (ra k) (gp g k).rhs.length (rc k), .int .i64 (gp g k).ln, .int .i64 (gp g k).lk]) ∧ H'[wb]? = some (row 3 (tb ks.length now))) (ks.length + 1) ?_ ?_)
      · exact ⟨0, by omega, by omega, by simp [upd, g0], by simp [upd, g3], by simp [upd, g4], by simp [upd, g5], by simp [upd], by simp [upd, g26], by simp [upd, g27], by simp [upd, g28], by simp [upd], by simp [upd], by simp [upd], hc5, hs5, hq5, hrow⟩
      clear hc5 hs5 hq5 hrow hc4 hs4 hq q1 hrd hc3 hs3 g0 g3 g4 g5 g26 g27 g28 hwb hwb0 hE5 hEq hP3 hall hk2 H3 H4 H5
      · rintro z f3 H6 ⟨j, hj1, rfl, g0, g3, g4, g5, g7, g26, g27, g28, g36, g37, g38, hc6, hs6, hq6, hw6⟩
        first | refine W_regK ?_ | refine W_seq (W_regK ?_)
        intro K hK; simp (maxSteps := 1000000) (disch := omega) only [BOps_nil, BOps_cons, Cont_eq, Bev, rd, ev, updO, wantD, bin, optK_some, ↓reduceIte, List.map, ne_eq, not_true_eq_false, g37, g38]
        refine hK _ _ ?_; clear hK K
        first | refine W_if (t := _) (by simp only [ev, upd, ↓reduceIte]; rfl) ?_ ?_ | refine W_cond (t := _) (by simp only [ev, upd, argf, Nat.reduceEqDiff, ↓reduceIte, reduceCtorEq]; rfl) ?_ ?_
        · intro hc
          have hj2 : j ≤ ks.length := by have : (j : Int) < (ks.length : Int) + 1 := by simpa using hc
                                         omega
          refine W_skip ?_; try simp only [thenQ]
          first | refine W_seq (W_block ?_) | refine W_block ?_
          have hwj : ldc H6 ⟨wb, j, none⟩ = some (.int .i64 (now j)) := by rw [ldc_row hw6, tb_get hj2]
          first | refine W_regK ?_ | refine W_seq (W_regK ?_)
          intro K hK; simp (maxSteps := 1000000) (disch := omega) only [BOps_nil, BOps_cons, Cont_eq, Bev, rd, ev, updO, upd, wantD, optK_some, Nat.reduceEqDiff, ↓reduceIte, List.map, inI_pos, Nat.zero_add, ld3, ixk28, g36, g38, Int.toNat_natCast, Nat.mul_one, hwj]
          refine hK _ _ ?_; clear hK K
          have hsv := hs6
          obtain ⟨ls, hls, hlnd, hlv⟩ := hsv
          have hpb := part_bd (g := g) (ks := ks) hwok a k j ⟨(gp g k).left, a, j⟩
          have hn0 := hnlo j
          have hn2 := hnhi j
          generalize hkey : (⟨(gp g k).left, a, j⟩ : It) = key at *
          have kp : key.p = (gp g k).left := by rw [← hkey]
          have kd : key.d = a := by rw [← hkey]
          have kf : key.f = j := by rw [← hkey]
          refine W_par 11 9 (Tch encIt sb key (iv 0) ls) (PhiG sb pb key (now j) (part g ks V a k j) ls) mixed (by decide +kernel) (Tch.pre _ _ _ _ _) ?_ ?_ ?_
          · intro i v lo hi Hx Hy hx hp
            match i, hp with
            | 0, hp | 1, hp | 2, hp | 3, hp | 4, hp | 5, hp | 6, hp | 7, hp | 8, hp | 10, hp => exact hp
            | 9, hp =>
              have hx : Ext Hx Hy := hx
              exact ⟨hp.1, hx.get hp.2⟩
            | i + 11, hp => trivial
          · simp only [ParSteps, List.take_succ_cons, List.take_zero]
            refine ⟨?_, ?_, ?_, ?_, ?_, ?_, ?_, ?_, ?_, ?_, ?_, trivial⟩
            · intro f1 Hy hx hout hdep; simp [depsOf, Region.binds, DepFacts] at hdep
              have e5 : f1 5 = .map (some sb) := by rw [hout 5 (by decide +kernel)]; simp [upd, g5]
              simp (maxSteps := 1000000) (disch := omega) only [wantB, Bev, rd, ev, optK_some, ↓reduceIte, reduceCtorEq, and_true, e5, PhiG]
              exact .refl _
            · intro f1 Hy hx hout hdep; simp [depsOf, Region.binds, DepFacts] at hdep
              have e7 : f1 7 = .pointer (some ⟨pb, 0, none⟩) := by rw [hout 7 (by decide +kernel)]; simp [upd, g7]
              simp (maxSteps := 1000000) (disch := omega) only [wantB, Bev, rd, ev, optK_some, Nat.reduceEqDiff, ↓reduceIte, and_true, Nat.zero_add, Nat.add_zero, fld44_0, e7, PhiG]
              exact .refl _
            · intro f1 Hy hx hout hdep; simp [depsOf, Region.binds, DepFacts, factAt, dstAt, PhiG] at hdep
              have hx : Tch encIt sb key (iv 0) ls H6 Hy := hx
              have q0 : ldc Hy ⟨pb, 0, none⟩ = some (.int .i64 (gp g k).left) := ldc_row (hx.get hq6 hpbs) 0
              simp (maxSteps := 1000000) (disch := omega) only [wantB, Bev, rd, ev, optK_some, Nat.reduceEqDiff, ↓reduceIte, and_true, Nat.reduceAdd, Nat.zero_add, ld3, hdep, PhiG, q0, kp]
              exact .refl _
            · intro f1 Hy hx hout hdep; simp [depsOf, Region.binds, DepFacts] at hdep
              have e4 : f1 4 = .int .i64 a := by rw [hout 4 (by decide +kernel)]; simp [upd, g4]
              simp (maxSteps := 1000000) (disch := omega) only [wantB, Bev, rd, ev, optK_some, Nat.reduceEqDiff, ↓reduceIte, and_true, Nat.reduceAdd, Nat.zero_add, e4, PhiG, kd]
              exact .refl _
            · intro f1 Hy hx hout hdep; simp [depsOf, Region.binds, DepFacts] at hdep
              have e8 : f1 8 = .int .i64 j := by rw [hout 8 (by decide +kernel)]; simp [upd]
              simp (maxSteps := 1000000) (disch := omega) only [wantB, Bev, rd, ev, optK_some, Nat.reduceEqDiff, ↓reduceIte, and_true, Nat.reduceAdd, Nat.zero_add, e8, PhiG, kf]
              exact .refl _
            · intro f1 Hy hx hout hdep; simp [depsOf, Region.binds, DepFacts, factAt, dstAt, PhiG] at hdep
              simp (maxSteps := 1000000) (disch := omega) only [wantB, Bev, ev, optK_some, Nat.reduceEqDiff, ↓reduceIte, List.map, and_true, Nat.reduceAdd, Nat.zero_add, hdep, PhiG, bld75]
              exact .refl _
            · intro f1 Hy hx hout hdep; simp [depsOf, Region.binds, DepFacts, factAt, dstAt, PhiG] at hdep
              have hx : Tch encIt sb key (iv 0) ls H6 Hy := hx
              have hlk := lk_touch (hx.map hls) hlv
              simp (maxSteps := 1000000) (disch := omega) only [wantB, Bev, ev, optK_some, Nat.reduceEqDiff, ↓reduceIte, and_true, Nat.reduceAdd, Nat.zero_add, hdep, PhiG, hlk]
              exact .refl _
            · intro f1 Hy hx hout hdep; simp [depsOf, Region.binds, DepFacts] at hdep
              have e9 : f1 9 = .int .i64 (now j) := by rw [hout 9 (by decide +kernel)]; simp [upd]
              simp (maxSteps := 1000000) (disch := omega) only [wantB, Bev, rd, ev, optK_some, Nat.reduceEqDiff, ↓reduceIte, and_true, Nat.reduceAdd, Nat.zero_add, e9, PhiG]
              exact .refl _
            · intro f1 Hy hx hout hdep; simp [depsOf, Region.binds, DepFacts, factAt, dstAt, PhiG] at hdep
              simp (maxSteps := 1000000) (disch := omega) only [wantB, Bev, rd, ev, bin, optK_some, Nat.reduceEqDiff, ↓reduceIte, ne_eq, not_true_eq_false, wrapi, and_true, Nat.reduceAdd, Nat.zero_add, hdep, PhiG]
              exact .refl _
            · intro f1 Hy hx hout hdep; simp [depsOf, Region.binds, DepFacts, factAt, dstAt, PhiG] at hdep
              have hx : Ext H6 Hy := hx
              simp (maxSteps := 1000000) (disch := omega) only [wantB, Bev, ev, ↓reduceIte, Nat.reduceAdd, Nat.zero_add, hdep, PhiG]
              have hmy := hx.get hls
              refine mapEnt_mobj key75 u71 hz3 hmy key ?_
              rw [zv3]
              refine ⟨⟨by simp, fun b hb hn => get_set_ne (fun e => hn e.symm) _, fun _ => .inr ⟨hmy, get_set (lt_of_get hmy) _⟩⟩, ⟨_, rfl⟩, get_set (lt_of_get hmy) _⟩
            · intro f1 Hy hx hout hdep; simp [depsOf, Region.binds, DepFacts, factAt, dstAt, PhiG] at hdep
              obtain ⟨⟨y, hy⟩, _⟩ := hdep
              simp (maxSteps := 1000000) (disch := omega) only [wantB, List.getElem?_toArray, Bev, rd, ev, List.getElem?_cons_succ, List.getElem?_cons_zero, optK_some, Nat.reduceEqDiff, ↓reduceIte, and_true, Nat.reduceAdd, Nat.zero_add, hy, PhiG]
              exact .refl _
          · intro f4 H7 lo hi hx hout hf hdis
            have hf0 := (hf 0 (by omega)).1
            have hf8 := (hf 8 (by omega)).1
            have hf9 := (hf 9 (by omega)).1
            have hf10 := (hf 10 (by omega)).1
            simp [factAt, dstAt, PhiG] at hf0 hf8 hf9 hf10
            have hx : Tch encIt sb key (iv 0) ls H6 H7 := hx
            simp only [List.drop_succ_cons, List.drop_zero]
            try simp (maxSteps := 1000000) (disch := omega) only [BOps_cons, Bev, ev, wantD, ↓reduceIte, List.map, hf0, hf8, hf10]
            refine entSt_mobj hf9.2 ?_
            simp only [thenQ, blockQ, BOps_nil, Cont_eq, updO]
            have hsz : H7.size = (H7.setIfInBounds sb (mobj encIt (aput key (iv (part g ks V a k j key + now j)) ls))).size := by simp
            have hfo : ∀ b, b ≠ sb → b < H6.size → (H7.setIfInBounds sb (mobj encIt (aput key (iv (part g ks V a k j key + now j)) ls)))[b]? = H6[b]? := fun b hb hb2 => (get_set_ne (fun e => hb e.symm) _).trans (hx.blk b hb2 hb)
            have hfs := get_set (lt_of_get hf9.2) (mobj encIt (aput key (iv (part g ks V a k j key + now j)) ls))
            generalize H7.setIfInBounds sb _ = H8 at *
            have hc8 : Ct H0 H8 c m cs V := by
              refine ⟨⟨?_, fun b hb => ?_⟩, hc6.hc, hc6.hm, ?_, ?_, hwok⟩
              · have := hc6.ext.size; have := hx.size; omega
              · rw [hfo b (by omega) (by have := hc6.ext.size; omega)]; exact hc6.ext.blk b hb
              · rw [hfo c (fun e => hsbc e.symm) (lt_of_get hc6.cb)]; exact hc6.cb
              · exact hc6.mi.keep (hfo m (fun e => hsbm e.symm) hc6.mi.lt)
            have hs8 : MI H8 sb (part g ks V a k (j + 1)) := by
              obtain ⟨p1, p2⟩ := MI.puts hlnd hlv key (part g ks V a k j key + now j)
              refine ⟨_, hfs, p1, fun b => ?_⟩
              have e : part g ks V a k (j + 1) b = if b = key then part g ks V a k j key + now j else part g ks V a k j b := by
                rw [part_step hj2, hkey, hnow]
                by_cases e : b = key
                · rw [if_pos e, if_pos e, e]
                · rw [if_neg e, if_neg e]
              rw [e]; exact p2 b
            have e0 : f4 0 = .pointer (some ⟨c, 0, none⟩) := by rw [hout 0 (by decide +kernel)]; simp [upd, g0]
            have e3 : f4 3 = .bool fr := by rw [hout 3 (by decide +kernel)]; simp [upd, g3]
            have e4 : f4 4 = .int .i64 a := by rw [hout 4 (by decide +kernel)]; simp [upd, g4]
            have e5 : f4 5 = .map (some sb) := by rw [hout 5 (by decide +kernel)]; simp [upd, g5]
            have e7 : f4 7 = .pointer (some ⟨pb, 0, none⟩) := by rw [hout 7 (by decide +kernel)]; simp [upd, g7]
            have e26 : f4 26 = .slice (some ⟨bp, op, none⟩) g.prods.length cap := by rw [hout 26 (by decide +kernel)]; simp [upd, g26]
            have e27 : f4 27 = .int .i64 g.prods.length := by rw [hout 27 (by decide +kernel)]; simp [upd, g27]
            have e28 : f4 28 = .int .i64 k := by rw [hout 28 (by decide +kernel)]; simp [upd, g28]
            have e36 : f4 36 = .slice (some ⟨wb, 0, none⟩) (ks.length + 1) (ks.length + 1) := by rw [hout 36 (by decide +kernel)]; simp [upd, g36]
            have e37 : f4 37 = .int .i64 ((ks.length : Int) + 1) := by rw [hout 37 (by decide +kernel)]; simp [upd, g37]
            have e38 : f4 38 = .int .i64 j := by rw [hout 38 (by decide +kernel)]; simp [upd, g38]
            refine W_reg ?_; simp (maxSteps := 1000000) (disch := omega) only [BOps_nil, BOps_cons, Cont_eq, Bev, rd, ev, updO, upd, wantD, bin, optK_some, ↓reduceIte, List.map, ne_eq, not_true_eq_false, wrapi, e38]
            simp only [thenQ]
            exact ⟨ks.length + 1 - (j + 1), by omega, j + 1, by omega, rfl, by simp [upd, e0], by simp [upd, e3], by simp [upd, e4], by simp [upd, e5], by simp [upd, e7], by simp [upd, e26], by simp [upd, e27], by simp [upd, e28], by simp [upd, e36], by simp [upd, e37], by simp [upd], hc8, hs8, (hfo pb hpbs (lt_of_get hq6)).trans hq6, (hfo wb hwsb (lt_of_get hw6)).trans hw6⟩
        · intro hc
          have hge : j = ks.length + 1 := by have : ¬ (j : Int) < (ks.length : Int) + 1 := by simpa using hc
                                             omega
          subst hge
          refine W_exit ?_; simp only [thenQ, blockQ, ↓reduceIte]
          refine W_reg ?_; simp (maxSteps := 1000000) (disch := omega) only [BOps_nil, BOps_cons, Cont_eq, Bev, rd, ev, updO, upd, wantD, bin, optK_some, Nat.reduceEqDiff, ↓reduceIte, List.map, ne_eq, not_true_eq_false, wrapi, g28]
          simp only [thenQ]
          rw [part_next hkl2] at hs6
          exact ⟨g.prods.length - (k + 1), by omega, k + 1, by omega, rfl, by simp [upd, g0], by simp [upd, g3], by simp [upd, g4], by simp [upd, g5], by simp [upd, g26], by simp [upd, g27], by simp [upd], hc6, hs6⟩
    · intro hc
      have hge : k = g.prods.length := by have : ¬ (k : Int) < g.prods.length := by simpa using hc
                                          omega
      subst hge
      rw [part_all] at hs3
      refine W_exit ?_; simp only [thenQ, blockQ, ↓reduceIte]
      have hsbd : ∀ x, 0 ≤ sumA g ks V a x := by
        intro x; unfold sumA; split
        · exact sumP_nonneg hwok x _
        · omega
      have hsbd2 : ∀ x, sumA g ks V a x ≤ 256 := by
        intro x; unfold sumA; split
        · have := sumP_le (g := g) (ks := ks) hwok x g.prods; unfold opW; omega
        · omega
      generalize hS : sumA g ks V a = S at *
      obtain ⟨l, hls, hlnd, hlv⟩ := hs3
      first | refine W_regK ?_ | refine W_seq (W_regK ?_)
      intro K hK; simp (maxSteps := 1000000) (disch := omega) only [BOps_cons, Cont_eq, Bev, rd, ev, updO, upd, wantD, optK_some, Nat.reduceEqDiff, ↓reduceIte, List.map, g5]
      refine rangeK_mobj u71 hls ?_
      have hEi := (Ext.refl H3).push (.mapIter (some sb) l.length #[] l.length)
      have hb4 := get_new H3 (.mapIter (some sb) l.length #[] l.length)
      have hc4 := hc3.grow hEi
      have hls4 := hEi.get hls
      have hib0 := hc3.ext.size
      have hibc : H3.size ≠ c := by have := lt_of_get hc3.cb; omega
      have hibm : H3.size ≠ m := by have := hc3.mi.lt; omega
      have hibs : H3.size ≠ sb := by have := lt_of_get hls; omega
      generalize hk2 : H3.size = ib at *
      generalize H3.push _ = H4 at *
      try simp (maxSteps := 1000000) (disch := omega) only [BOps_nil, Cont_eq, updO]
      refine hK _ _ ?_; clear hK K
      first | refine W_seq (W_block (W_loop (fun z f H' => ∃ (seen : Array Nat) (U : Ways) (fr : Bool), z = l.length - seen.size ∧ f 0 = .pointer (some ⟨c, 0, none⟩) ∧ f 3 = .bool fr ∧ f 4 = .int .i64 a ∧ f 57 = .pointer (some ⟨ib, 0, none⟩) ∧ Ct H0 H' c m cs U ∧ H'[sb]? = some (mobj encIt l) ∧ H'[ib]? = some (.mapIter (some sb) l.length seen l.length) ∧ seen.toList.Nodup ∧ (∀ i ∈ seen.toList, i < l.length) ∧ (∀ x, W x ≤ U x) ∧ (fr = true ↔ ∃ x, W x < U x) ∧ (∀ i, (hi : i < l.length) → i ∈ seen → U l[i].1 = max (V l[i].1) (mn (S l[i].1))) ∧ (∀ x, (∀ i, (hi : i < l.length) → i ∈ seen → l[i].1 ≠ x) → U x = V x)) l.length ?_ ?_)) | refine W_block (W_loop (fun z f H' => ∃ (seen : Array Nat) (U : Ways) (fr : Bool), z = l.length - seen.size ∧ f 0 = .pointer (some ⟨c, 0, none⟩) ∧ f 3 = .bool fr ∧ f 4 = .int .i64 a ∧ f 57 = .pointer (some ⟨ib, 0, none⟩) ∧ Ct H0 H' c m cs U ∧ H'[sb]? = some (mobj encIt l) ∧ H'[ib]? = some (.mapIter (some sb) l.length seen l.length) ∧ seen.toList.Nodup ∧ (∀ i ∈ seen.toList, i < l.length) ∧ (∀ x, W x ≤ U x) ∧ (fr = true ↔ ∃ x, W x < U x) ∧ (∀ i, (hi : i < l.length) → i ∈ seen → U l[i].1 = max (V l[i].1) (mn (S l[i].1))) ∧ (∀ x, (∀ i, (hi : i < l.length) → i ∈ seen → l[i].1 ≠ x) → U x = V x)) l.length ?_ ?_)
      · exact ⟨#[], V, fr, by simp, by simp [upd, g0], by simp [upd, g3], by simp [upd, g4], by simp [upd], hc4, hls4, hb4, by simp, by simp, hWV, hfr, by simp, fun x _ => rfl⟩
      clear hc4 hls4 hb4 hEi g0 g3 g4 g5 g26 g27 g28 hls hc3 hk2 H3 H4 hfr
      rintro z f3 H4 ⟨seen, U, fr, rfl, g0, g3, g4, g57, hc4, hls, hb, hnd, hlt, hWU, hfr, hin, hout⟩
      first | refine W_regK ?_ | refine W_seq (W_regK ?_)
      intro K hK; simp (maxSteps := 1000000) (disch := omega) only [BOps_cons, Bev, ev, wantD, ↓reduceIte, List.map, g57]
      refine nextK_mobj hb hls ?_ ?_
      · intro i hi hns
        have hc5 := hc4.setOff hib0 hibc hibm (.mapIter (some sb) l.length (seen.push i) l.length)
        have hb5 := get_set (lt_of_get hb) (.mapIter (some sb) l.length (seen.push i) l.length)
        have hls5 := (get_set_ne hibs (.mapIter (some sb) l.length (seen.push i) l.length)).trans hls
        generalize H4.setIfInBounds ib _ = H5 at *
        have hent := entryK_mobj hb5 hls5 hi
        generalize hxi : l[i].1 = x at *
        have hvx : l[i].2 = .int .i64 (S x) := by
          have := aget_of_get (i := i) (a := l[i].1) (v := l[i].2) hlnd (List.getElem?_eq_getElem hi)
          rw [hxi] at this
          rcases hlv x with ⟨h1, _⟩ | h1
          · rw [h1] at this; cases this
          · rw [h1] at this; injection this with this; exact this.symm
        rw [hvx] at hent
        have hS0 := hsbd x
        have hS1 := hsbd2 x
        try simp (maxSteps := 1000000) (disch := omega) only [List.getElem?_toArray, BOps_nil, BOps_cons, Cont_eq, Bev, rd, ev, updO, upd, wantD, List.getElem?_cons_zero, optK_some, ↓reduceIte]
        refine hK _ _ ?_; clear hK K
        first | refine W_seq (W_cond_t (by simp only [ev, upd, ↓reduceIte]) ?_) | refine W_cond_t (by simp only [ev, upd, argf, Nat.reduceEqDiff, ↓reduceIte, reduceCtorEq]) ?_
        refine W_skip ?_; try simp only [thenQ]
        first | refine W_seq (W_block ?_) | refine W_block ?_
        first | refine W_regK ?_ | refine W_seq (W_regK ?_)
        intro K hK; simp (maxSteps := 1000000) (disch := omega) only [List.getElem?_toArray, stn_new_iii, optH_some, BOps_nil, BOps_cons, Cont_eq, Bev, rd, ev, updO, upd, wantD, List.getElem?_cons_succ, List.getElem?_cons_zero, optK_some, optH_some, Nat.reduceEqDiff, ↓reduceIte, List.map, List.toList_toArray, Value.cells, List.size_toArray, List.length_cons, List.length_nil, Nat.reduceAdd, Nat.zero_add, hz75, st75, zc75, g57, hent, encIt]
        have hE6 := (Ext.refl H5).push (row 75 [.int .i64 x.p, .int .i64 x.d, .int .i64 x.f])
        have hk6 := get_new H5 (row 75 [.int .i64 x.p, .int .i64 x.d, .int .i64 x.f])
        have hc6 := hc5.grow hE6
        have hb6 := hE6.get hb5
        have hls6 := hE6.get hls5
        have hkbm : H5.size ≠ m := by have := hc5.mi.lt; omega
        generalize hk3 : H5.size = kb at *
        generalize H5.push _ = H6 at *
        refine hK _ _ ?_; clear hK K
        first | refine W_regK ?_ | refine W_seq (W_regK ?_)
        intro K hK; simp (maxSteps := 1000000) (disch := omega) only [BOps_nil, BOps_cons, Cont_eq, Bev, rd, rdB, ev, updO, upd, wantD, optK_some, ↓reduceIte, List.map]
        refine hK _ _ ?_; clear hK K
        obtain ⟨l4, l5, l6⟩ := heads H6 U hc6
        have hk3' : ldn H6 3 ⟨kb, 0, none⟩ = some [.int .i64 x.p, .int .i64 x.d, .int .i64 x.f] := by rw [ldn_row hk6]; rfl
        have hlk := hc6.mi.lk x.p x.d x.f
        have hUx : U x = V x := by
          refine hout x fun i' hi' hs' e => ?_
          have : i' = i := by
            have h1 : (l.map (·.1))[i']? = some x := by simp [hi', e]
            have h2 : (l.map (·.1))[i]? = some x := by simp [hi, hxi]
            exact (List.getElem?_inj (by simpa using hi') hlnd).1 (h1.trans h2.symm)
          subst this; exact hns hs'
        have hmn : (if 2 < S x then 2 else S x) = mn (S x) := rfl
        have hmn0 := mn_nonneg hS0
        have hmn2 := mn_le (S x)
        have hU0 := hc6.ok.lo x
        have hU2 := hc6.ok.hi x
        by_cases c1 : mn (S x) > U x
        · have c1' : decide (mn (S x) > U ⟨x.p, x.d, x.f⟩) = true := by simpa using c1
          first | refine W_drawK mixed (by decide +kernel) ?_ | refine W_seq (W_drawK mixed (by decide +kernel) ?_)
          intro K hK; simp (maxSteps := 1000000) (disch := omega) only [optQ_some, QOps_nil, QOps_cons, QCont_eq, QBev, rq, rd, ev, updO, upd, wantD, bin, Nat.reduceEqDiff, ↓reduceIte, List.map, ne_eq, not_true_eq_false, reduceCtorEq, Option.map_some, Nat.zero_add, ld71, fld73_2, ld75, g0, l6, hk3', hlk, hmn, c1']
          refine hK _ ?_; clear hK K
          first | refine W_seq (W_cond_t (by simp only [ev]) ?_) | refine W_cond_t (by simp only [ev, upd, ↓reduceIte]) ?_
          obtain ⟨lm, hlm, hmnd, hmv⟩ := hc6.mi
          refine W_par 8 6 (Tch encIt m x (iv 0) lm) (PhiH c m kb x (mn (S x)) lm) mixed (by decide +kernel) (Tch.pre _ _ _ _ _) ?_ ?_ ?_
          · intro i v lo hi Hx Hy hx hp
            match i, hp with
            | 0, hp | 1, hp | 2, hp | 3, hp | 4, hp | 5, hp | 7, hp => exact hp
            | 6, hp =>
              have hx : Ext Hx Hy := hx
              exact ⟨hp.1, hx.get hp.2⟩
            | i + 8, hp => trivial
          · simp only [ParSteps, List.take_succ_cons, List.take_zero]
            refine ⟨?_, ?_, ?_, ?_, ?_, ?_, ?_, ?_, trivial⟩
            · intro f1 Hy hx hout hdep; simp [depsOf, Region.binds, DepFacts] at hdep
              have e0 : f1 0 = .pointer (some ⟨c, 0, none⟩) := by rw [hout 0 (by decide +kernel)]; simp [upd, g0]
              simp (maxSteps := 1000000) (disch := omega) only [wantB, Bev, rd, ev, optK_some, ↓reduceIte, reduceCtorEq, and_true, e0, PhiH]
              exact .refl _
            · intro f1 Hy hx hout hdep; simp [depsOf, Region.binds, DepFacts, factAt, dstAt, PhiH] at hdep
              simp (maxSteps := 1000000) (disch := omega) only [wantB, Bev, rd, ev, optK_some, Nat.reduceEqDiff, ↓reduceIte, and_true, Nat.zero_add, hdep, PhiH]
              exact .refl _
            · intro f1 Hy hx hout hdep; simp [depsOf, Region.binds, DepFacts, factAt, dstAt, PhiH] at hdep
              simp (maxSteps := 1000000) (disch := omega) only [wantB, Bev, rd, ev, optK_some, Nat.reduceEqDiff, ↓reduceIte, and_true, Nat.reduceAdd, Nat.zero_add, fld73_2, hdep, PhiH]
              exact .refl _
            · intro f1 Hy hx hout hdep; simp [depsOf, Region.binds, DepFacts, factAt, dstAt, PhiH] at hdep
              have hx : Tch encIt m x (iv 0) lm H6 Hy := hx
              have l6 : ldc Hy ⟨c, 6, none⟩ = some (.map (some m)) := by
                have := hx.get hc6.cb hc6.ne
                rw [ldc_row this, hcs]; rfl
              simp (maxSteps := 1000000) (disch := omega) only [wantB, Bev, rd, ev, optK_some, Nat.reduceEqDiff, ↓reduceIte, and_true, Nat.reduceAdd, Nat.zero_add, ld71, hdep, PhiH, l6]
              exact .refl _
            · intro f1 Hy hx hout hdep; simp [depsOf, Region.binds, DepFacts] at hdep
              have hx : Tch encIt m x (iv 0) lm H6 Hy := hx
              have e10 : f1 10 = .pointer (some ⟨kb, 0, none⟩) := by rw [hout 10 (by decide +kernel)]; simp [upd]
              have lk : ldn Hy 3 ⟨kb, 0, none⟩ = some [.int .i64 x.p, .int .i64 x.d, .int .i64 x.f] := by rw [ldn_row (hx.get hk6 hkbm)]; rfl
              simp (maxSteps := 1000000) (disch := omega) only [wantB, Bev, rd, ev, optK_some, Nat.reduceEqDiff, ↓reduceIte, and_true, Option.map_some, Nat.reduceAdd, Nat.zero_add, ld75, e10, PhiH, lk]
              exact .refl _
            · intro f1 Hy hx hout hdep; simp [depsOf, Region.binds, DepFacts] at hdep
              have e11 : f1 11 = .int .i64 (mn (S x)) := by rw [hout 11 (by decide +kernel)]; simp [upd]
              simp (maxSteps := 1000000) (disch := omega) only [wantB, Bev, rd, ev, optK_some, Nat.reduceEqDiff, ↓reduceIte, and_true, Nat.reduceAdd, Nat.zero_add, e11, PhiH]
              exact .refl _
            · intro f1 Hy hx hout hdep; simp [depsOf, Region.binds, DepFacts, factAt, dstAt, PhiH] at hdep
              have hx : Ext H6 Hy := hx
              simp (maxSteps := 1000000) (disch := omega) only [wantB, Bev, ev, ↓reduceIte, Nat.reduceAdd, Nat.zero_add, hdep, PhiH]
              have hmy := hx.get hlm
              refine mapEnt_mobj key75 u71 hz3 hmy x ?_
              rw [zv3]
              refine ⟨⟨by simp, fun b hb hn => get_set_ne (fun e => hn e.symm) _, fun _ => .inr ⟨hmy, get_set (lt_of_get hmy) _⟩⟩, ⟨_, rfl⟩, get_set (lt_of_get hmy) _⟩
            · intro f1 Hy hx hout hdep; simp [depsOf, Region.binds, DepFacts, factAt, dstAt, PhiH] at hdep
              obtain ⟨⟨y, hy⟩, _⟩ := hdep
              simp (maxSteps := 1000000) (disch := omega) only [wantB, List.getElem?_toArray, Bev, rd, ev, List.getElem?_cons_succ, List.getElem?_cons_zero, optK_some, Nat.reduceEqDiff, ↓reduceIte, and_true, Nat.reduceAdd, Nat.zero_add, hy, PhiH]
              exact .refl _
          · intro f4 H7 lo hi2 hx hout4 hf hdis
            have hf3 := (hf 3 (by omega)).1
            have hf5 := (hf 5 (by omega)).1
            have hf6 := (hf 6 (by omega)).1
            have hf7 := (hf 7 (by omega)).1
            simp [factAt, dstAt, PhiH] at hf3 hf5 hf6 hf7
            have hx : Tch encIt m x (iv 0) lm H6 H7 := hx
            simp only [List.drop_succ_cons, List.drop_zero]
            try simp (maxSteps := 1000000) (disch := omega) only [BOps_cons, Bev, ev, wantD, ↓reduceIte, List.map, ne_eq, hf3, hf5, hf7]
            refine entSt_mobj hf6.2 ?_
            simp only [Nat.reduceEqDiff, ↓reduceIte, thenQ, blockQ, BOps_nil, BOps_cons, Cont_eq, Bev, rd, ev, updO, upd, wantD, optK_some, Nat.reduceEqDiff, ↓reduceIte, reduceCtorEq]
            have hfo : ∀ b, b ≠ m → b < H6.size → (H7.setIfInBounds m (mobj encIt (aput x (iv (mn (S x))) lm)))[b]? = H6[b]? := fun b hb hb2 => (get_set_ne (fun e => hb e.symm) _).trans (hx.blk b hb2 hb)
            have hfs := get_set (lt_of_get hf6.2) (mobj encIt (aput x (iv (mn (S x))) lm))
            have hsz : (H7.setIfInBounds m (mobj encIt (aput x (iv (mn (S x))) lm))).size = H7.size := by simp
            generalize H7.setIfInBounds m _ = H8 at *
            have hc8 : Ct H0 H8 c m cs (fun b => if b = x then mn (S x) else U b) := by
              refine ⟨⟨?_, fun b hb => ?_⟩, hc6.hc, hc6.hm, ?_, ?_, ⟨fun b => ?_, fun b => ?_⟩⟩
              · have := hc6.ext.size; have := hx.size; omega
              · rw [hfo b (by have := hc6.hm; omega) (by have := hc6.ext.size; omega)]; exact hc6.ext.blk b hb
              · rw [hfo c hc6.ne (lt_of_get hc6.cb)]; exact hc6.cb
              · obtain ⟨p1, p2⟩ := MI.puts hmnd hmv x (mn (S x))
                exact ⟨_, hfs, p1, p2⟩
              · (try simp only []); split
                · exact hmn0
                · exact hc6.ok.lo b
              · (try simp only []); split
                · exact hmn2
                · exact hc6.ok.hi b
            have e0 : f4 0 = .pointer (some ⟨c, 0, none⟩) := by rw [hout4 0 (by decide +kernel)]; simp [upd, g0]
            have e4 : f4 4 = .int .i64 a := by rw [hout4 4 (by decide +kernel)]; simp [upd, g4]
            have e57 : f4 57 = .pointer (some ⟨ib, 0, none⟩) := by rw [hout4 57 (by decide +kernel)]; simp [upd, g57]
            refine ⟨l.length - (seen.push i).size, ?_, seen.push i, _, true, rfl, by simp [e0], by simp [], by simp [e4], by simp [e57], hc8, (hfo sb (fun e => hsbm e) (lt_of_get hls6)).trans hls6, (hfo ib hibm (lt_of_get hb6)).trans hb6, ?_, ?_, ?_, ?_, ?_, ?_⟩
            · have := nodup_bound l.length (i :: seen.toList) (List.nodup_cons.2 ⟨by simpa using hns, hnd⟩) (by
                intro y hy
                rcases List.mem_cons.1 hy with rfl | hy
                · exact hi
                · exact hlt y hy)
              simp at this
              simp; omega
            · simp only [Array.toList_push]
              rw [List.nodup_append]
              refine ⟨hnd, by simp, ?_⟩
              intro y hy z hz e; simp at hz; subst hz; subst e; exact hns (by simpa using hy)
            · intro y hy
              simp at hy
              rcases hy with hy | rfl
              · exact hlt y (by simpa using hy)
              · exact hi
            · intro b; (try simp only []); split
              · rename_i e; have := hWU x; rw [e]; omega
              · exact hWU b
            · refine ⟨fun _ => ⟨x, ?_⟩, fun _ => rfl⟩
              simp only [if_true]; have := hWU x; omega
            · intro i' hi' hs'
              simp only [Array.mem_push] at hs'
              rcases hs' with hs' | rfl
              · by_cases e : l[i'].1 = x
                · simp only [e, if_true]; omega
                · simp only [if_neg e]; exact hin i' hi' hs'
              · simp only [hxi, if_true]; omega
            · intro b hb'
              have h1 : b ≠ x := fun e => hb' i hi (by simp) (by rw [hxi, e])
              simp only [if_neg h1]
              exact hout b fun i' hi' hs' => hb' i' hi' (by simp [hs'])
        · have c1' : decide (mn (S x) > U ⟨x.p, x.d, x.f⟩) = false := by simpa using c1
          first | refine W_drawK mixed (by decide +kernel) ?_ | refine W_seq (W_drawK mixed (by decide +kernel) ?_)
          intro K hK; simp (maxSteps := 1000000) (disch := omega) only [optQ_some, QOps_nil, QOps_cons, QCont_eq, QBev, rq, rd, ev, updO, upd, wantD, bin, Nat.reduceEqDiff, ↓reduceIte, List.map, ne_eq, not_true_eq_false, reduceCtorEq, Option.map_some, Nat.zero_add, ld71, fld73_2, ld75, g0, l6, hk3', hlk, hmn, c1']
          refine hK _ ?_; clear hK K
          first | refine W_seq (W_cond_f (by simp only [ev]) ?_) | refine W_cond_f (by simp only [ev, upd, ↓reduceIte]) ?_
          refine W_skip ?_; try simp only [thenQ, blockQ]
          refine ⟨l.length - (seen.push i).size, ?_, seen.push i, U, fr, rfl, by simp [upd, g0], by simp [upd, g3], by simp [upd, g4], by simp [upd, g57], hc6, hls6, hb6, ?_, ?_, hWU, hfr, ?_, ?_⟩
          · have := nodup_bound l.length (i :: seen.toList) (List.nodup_cons.2 ⟨by simpa using hns, hnd⟩) (by
              intro y hy
              rcases List.mem_cons.1 hy with rfl | hy
              · exact hi
              · exact hlt y hy)
            simp at this
            simp; omega
          · simp only [Array.toList_push]
            rw [List.nodup_append]
            refine ⟨hnd, by simp, ?_⟩
            intro y hy z hz e; simp at hz; subst hz; subst e; exact hns (by simpa using hy)
          · intro y hy
            simp at hy
            rcases hy with hy | rfl
            · exact hlt y (by simpa using hy)
            · exact hi
          · intro i' hi' hs'
            simp only [Array.mem_push] at hs'
            rcases hs' with hs' | rfl
            · exact hin i' hi' hs'
            · rw [hxi]; omega
          · intro b hb'
            exact hout b fun i' hi' hs' => hb' i' hi' (by simp [hs'])
      · intro hall
        try simp (maxSteps := 1000000) (disch := omega) only [List.getElem?_toArray, BOps_nil, BOps_cons, Cont_eq, Bev, rd, ev, updO, upd, wantD, List.getElem?_cons_zero, optK_some, ↓reduceIte]
        refine hK _ _ ?_; clear hK K
        first | refine W_seq (W_cond_f (by simp only [ev, upd, ↓reduceIte]) ?_) | refine W_cond_f (by simp only [ev, upd, argf, Nat.reduceEqDiff, ↓reduceIte, reduceCtorEq]) ?_
        refine W_exit ?_; simp only [thenQ, blockQ, ↓reduceIte]
        have hU : U = upA g ks V a := by
          funext x
          unfold upA
          rw [hS]
          rcases hlv x with ⟨h1, h2⟩ | h1
          · rw [h2, hout x]
            · have := hwlo x; have : mn 0 = 0 := rfl; omega
            · intro i hi _ e
              have := aget_of_get (i := i) (a := l[i].1) (v := l[i].2) hlnd (List.getElem?_eq_getElem hi)
              rw [e, h1] at this; cases this
          · have : ∃ i, ∃ hi : i < l.length, l[i].1 = x := by
              refine Classical.byContradiction fun hn => ?_
              have : aget l x = none := aget_none_iff.2 fun hm => by
                obtain ⟨y, hy, e⟩ := List.mem_map.1 hm
                obtain ⟨i, hi, rfl⟩ := List.getElem_of_mem hy
                exact hn ⟨i, hi, e⟩
              rw [this] at h1; cases h1
            obtain ⟨i, hi, e⟩ := this
            have := hin i hi (hall i hi)
            rw [e] at this; exact this
        subst hU
        refine W_reg ?_; simp (maxSteps := 1000000) (disch := omega) only [BOps_nil, BOps_cons, Cont_eq, Bev, rd, ev, updO, upd, wantD, bin, optK_some, Nat.reduceEqDiff, ↓reduceIte, List.map, ne_eq, not_true_eq_false, wrapi, g4]
        simp only [thenQ]
        exact ⟨a, by omega, a, _, fr, by omega, rfl, by simp [upd, g0], by simp [upd, g3], by simp [upd], hc4, hWU, hfr, hup⟩
end Go.Proofs.Yteheedbhmggcgaa
