import Derived.Test.YteheedbhmggcgaaEI
namespace Go.Proofs.Yteheedbhmggcgaa
open Go Go.Vy Go.Proofs
set_option linter.unusedSimpArgs false
set_option linter.unusedVariables false
theorem le_upA (g : Gm) (ks : List Int) (W : Ways) (a : Nat) (x : It) : W x ≤ upA g ks W a x := by unfold upA; omega
theorem le_upD (g : Gm) (ks : List Int) : ∀ (k : Nat) (W : Ways) (x : It), W x ≤ upD g ks k W x
  | 0, _, _ => Int.le_refl _
  | k + 1, W, x => Int.le_trans (le_upA g ks W k x) (le_upD g ks k _ x)
theorem upD_fix {g : Gm} {ks : List Int} {W : Ways} : ∀ (k : Nat), (∀ x, upD g ks k W x ≤ W x) → ∀ a, a < k → ∀ x, upA g ks W a x = W x
  | 0, _, a, ha, _ => by omega
  | k + 1, h, a, ha, x => by
    have h1 : upA g ks W k = W := by
      funext y
      have := h y
      have h2 := le_upD g ks k (upA g ks W k) y
      have h3 := le_upA g ks W k y
      simp only [upD] at this
      omega
    by_cases e : a = k
    · subst e; rw [h1]
    · refine upD_fix k (fun y => ?_) a (by omega) x
      have := h y
      simp only [upD, h1] at this
      exact this
theorem pre_of_fix {g : Gm} {ks : List Int} {W : Ways} (h : ∀ x, upD g ks (ks.length + 1) W x ≤ W x) : Pre g ks W := by
  intro x hx
  have := upD_fix _ h x.d.toNat (by have := hx.1; have := hx.2.1; omega) x
  unfold upA sumA at this
  rw [if_pos ⟨by have := hx.1; omega, hx.2.2⟩] at this
  omega
theorem upA_le {g : Gm} {ks : List Int} {V W : Ways} (hv : WOk V) (hw : WOk W) (hp : Pre g ks V) (h : ∀ x, W x ≤ V x) (a : Nat) (ha : a ≤ ks.length) (x : It) : upA g ks W a x ≤ V x := by
  unfold upA sumA
  have := h x
  split
  · rename_i hx
    have h1 := mn_mono (opW_mono (g := g) (ks := ks) hw hv h x)
    have h2 := hp x ⟨by omega, by omega, hx.2⟩
    omega
  · have : mn 0 = 0 := rfl
    have := hv.lo x
    omega
theorem upD_ok {g : Gm} {ks : List Int} : ∀ (k : Nat) {W : Ways}, WOk W → WOk (upD g ks k W)
  | 0, _, h => h
  | k + 1, _, h => upD_ok k (upA_ok h k)
theorem upD_le {g : Gm} {ks : List Int} {V : Ways} (hv : WOk V) (hp : Pre g ks V) : ∀ (k : Nat) {W : Ways}, WOk W → (∀ x, W x ≤ V x) → k ≤ ks.length + 1 → ∀ x, upD g ks k W x ≤ V x
  | 0, _, _, h, _, x => h x
  | k + 1, _, hw, h, hk, x => upD_le hv hp k (upA_ok hw k) (fun y => upA_le hv hw hp h k (by omega) y) (by omega) x
/-- Pieces that may have ways. -/
def InB (x : It) : Prop := 0 ≤ x.p ∧ x.p < 48 ∧ 0 ≤ x.d ∧ x.d < 61 ∧ 0 ≤ x.f ∧ x.f < 61
theorem sumP_pos {g : Gm} {ks : List Int} {W : Ways} (hw : WOk W) (x : It) : ∀ l, 0 < sumP g ks W x l → ∃ p ∈ l, 0 < opP g ks W x p
  | [], h => by simp [sumP] at h
  | p :: r, h => by
    simp only [sumP] at h
    by_cases e : 0 < opP g ks W x p
    · exact ⟨p, by simp, e⟩
    · obtain ⟨q, hq, h2⟩ := sumP_pos (g := g) (ks := ks) hw x r (by omega)
      exact ⟨q, by simp [hq], h2⟩
theorem opP_left {g : Gm} {ks : List Int} {W : Ways} {x : It} {p : Pr} (h : 0 < opP g ks W x p) : p.left = x.p := by
  unfold opP at h
  split at h
  · assumption
  · omega
theorem upA_dom {g : Gm} {ks : List Int} (hs : Shape g) (hk : ks.length ≤ 60) {W : Ways} (hw : WOk W) (h : ∀ x, 0 < W x → InB x) (a : Nat) (ha : a ≤ ks.length) (x : It) (hx : 0 < upA g ks W a x) : InB x := by
  by_cases e : 0 < W x
  · exact h x e
  · have hp : 0 < mn (sumA g ks W a x) := by unfold upA at hx; omega
    rw [mn_pos] at hp
    unfold sumA at hp
    split at hp
    · rename_i hc
      obtain ⟨p, hp, h2⟩ := sumP_pos hw x _ hp
      have hl := hs.left p hp
      rw [opP_left h2] at hl
      have := hs.nn
      exact ⟨hl.1, by omega, by omega, by omega, hc.2.1, by omega⟩
    · omega
theorem upD_dom {g : Gm} {ks : List Int} (hs : Shape g) (hk : ks.length ≤ 60) : ∀ (k : Nat) {W : Ways}, WOk W → (∀ x, 0 < W x → InB x) → k ≤ ks.length + 1 → ∀ x, 0 < upD g ks k W x → InB x
  | 0, _, _, h, _, x, hx => h x hx
  | k + 1, _, hw, h, hl, x, hx => upD_dom hs hk k (upA_ok hw k) (fun y hy => upA_dom hs hk hw h k (by omega) y hy) (by omega) x hx
def allP : List It := (List.range 48).flatMap fun (p : Nat) => (List.range 61).flatMap fun (d : Nat) => (List.range 61).map fun (f : Nat) => ⟨p, d, f⟩
theorem mem_allP {x : It} (h : InB x) : x ∈ allP := by
  obtain ⟨p, d, f⟩ := x
  obtain ⟨h1, h2, h3, h4, h5, h6⟩ := h
  simp only at h1 h2 h3 h4 h5 h6
  unfold allP
  rw [List.mem_flatMap]
  refine ⟨p.toNat, List.mem_range.2 (by omega), ?_⟩
  rw [List.mem_flatMap]
  refine ⟨d.toNat, List.mem_range.2 (by omega), ?_⟩
  rw [List.mem_map]
  refine ⟨f.toNat, List.mem_range.2 (by omega), ?_⟩
  simp only [It.mk.injEq]; omega
def mu (W : Ways) : List It → Nat
  | [] => 0
  | x :: r => (2 - W x).toNat + mu W r
theorem mu_le {W W' : Ways} (h : ∀ x, W x ≤ W' x) : ∀ l, mu W' l ≤ mu W l
  | [] => Nat.le_refl _
  | x :: r => by have := mu_le h r; have := h x; simp only [mu]; omega
theorem mu_lt {W W' : Ways} (h : ∀ x, W x ≤ W' x) (hw : WOk W') : ∀ {l : List It} {x : It}, x ∈ l → W x < W' x → mu W' l < mu W l
  | [], x, hx, _ => by cases hx
  | y :: r, x, hx, hl => by
    have h1 := mu_le h r
    have h2 := h y
    have h3 := hw.hi x
    simp only [mu]
    rcases List.mem_cons.1 hx with rfl | hx
    · omega
    · have := mu_lt h hw hx hl; omega
theorem bld73 (a b c d e : Value) (p : Option Addr) (m n k : Nat) : bldV Try.prog 73 [(0, .agg #[a, b, c, d, e]), (1, .slice p m n), (2, .map (some k))] = some (.agg #[a, b, c, d, e, .slice p m n, .map (some k)]) := by
  simp [bldV, plc73, hz73, zc73, bld, ow, Value.cells]
theorem counts_spec (H : Hp) (vt vl vp vn vd vk : Value) (g : Gm) (ks : List Int) (hg : GV H vt vl vp vn vd g) (hk : RdI H vk ks) (hkl : ks.length ≤ 2 ^ 45) :
    CallsV Try.prog 12 [.agg #[vt, vl, vp, vn, vd], vk].toArray H (fun r H' => Ext H H' ∧ ∃ n e : Int, r = .tuple #[.int .i64 n, .int .i64 e] ∧ EChk g ks e ∧ (e = 0 → ∃ W, WOk W ∧ Pre g ks W ∧ (∀ V, WOk V → Pre g ks V → ∀ x, W x ≤ V x) ∧ n = W ⟨0, 0, ks.length⟩) ∧ (e ≠ 0 → n = 0)) := by
  obtain ⟨L, hL⟩ : ∃ L : List It, ∀ x, InB x → x ∈ L := ⟨allP, fun x h => mem_allP h⟩
  refine calls_W (m := 29) Try.call12 Try.func12 rfl rfl (by decide +kernel) (by simp) ?_
  first | refine W_regK ?_ | refine W_seq (W_regK ?_)
  intro K hK; simp (maxSteps := 1000000) (disch := omega) only [BOps_nil, BOps_cons, Cont_eq, Bev, rd, ev, updO, wantD, argf, optK_some, ↓reduceIte, List.map, List.toList_toArray, Value.cells]
  have hE := (Ext.refl H).push (row 27 [vt, vl, vp, vn, vd])
  have hb := get_new H (row 27 [vt, vl, vp, vn, vd])
  have hg1 := hg.ext hE
  have hk1 := RdI.ext hE hk
  generalize hk0 : H.size = k0 at *
  generalize H.push _ = H1 at *
  refine hK _ _ ?_; clear hK K
  have l0 : ldn H1 5 ⟨k0, 0, none⟩ = some [vt, vl, vp, vn, vd] := by rw [ldn_row hb]; rfl
  first | refine W_regK ?_ | refine W_seq (W_regK ?_)
  intro K hK; simp (maxSteps := 1000000) (disch := omega) only [BOps_cons, Cont_eq, Bev, rd, ev, updO, upd, wantD, argf, optK_some, Nat.reduceEqDiff, ↓reduceIte, List.map, List.map_toArray, List.append_toArray, List.append_nil, List.nil_append, Option.map_some, ld27, l0]
  refine (echeck_spec H1 _ _ _ _ _ vk g ks hg1 hk1 hkl).mono ?_
  rintro r H2 ⟨hE2, e, rfl, hC⟩
  have hE := hE.trans hE2
  have hb2 := hE2.get hb
  try simp (maxSteps := 1000000) (disch := omega) only [BOps_nil, BOps_cons, Cont_eq, Bev, rd, ev, updO, upd, wantD, optK_some, ↓reduceIte]
  refine hK _ _ ?_; clear hK K
  by_cases c1 : e = 0
  rotate_left
  · have c1' : (e != 0) = true := bne_iff_ne.2 c1
    first | refine W_regK ?_ | refine W_seq (W_regK ?_)
    intro K hK; simp (maxSteps := 1000000) (disch := omega) only [BOps_nil, BOps_cons, Cont_eq, Bev, rd, ev, updO, upd, wantD, bin, optK_some, ↓reduceIte, List.map, ne_eq, not_true_eq_false, c1']
    refine hK _ _ ?_; clear hK K
    first | refine W_seq (W_cond_t (by simp only [ev]) ?_) | refine W_cond_t (by simp only [ev, upd, ↓reduceIte]) ?_
    first | refine W_regK ?_ | refine W_seq (W_regK ?_)
    intro K hK; simp (maxSteps := 1000000) (disch := omega) only [BOps_nil, BOps_cons, Cont_eq, Bev, rd, ev, updO, upd, wantD, optK_some, Nat.reduceEqDiff, ↓reduceIte, List.map]
    refine hK _ _ ?_; clear hK K
    refine W_ret ?_; simp only [thenQ, retQ, Try.results12, resV2, Option.some.injEq, exists_eq_left', upd, Nat.reduceEqDiff, ↓reduceIte, List.toList_toArray, ne_eq]
    exact ⟨hE, 0, e, rfl, hC, fun h => absurd h c1, fun _ => rfl⟩
  have c1' : (e != 0) = false := bne_eq_false_iff_eq.2 c1
  obtain ⟨hok, hkok⟩ := hC.zero.1 c1
  have hkl60 := hkok.1
  first | refine W_regK ?_ | refine W_seq (W_regK ?_)
  intro K hK; simp (maxSteps := 1000000) (disch := omega) only [BOps_nil, BOps_cons, Cont_eq, Bev, rd, ev, updO, upd, wantD, bin, optK_some, ↓reduceIte, List.map, ne_eq, not_true_eq_false, c1']
  refine hK _ _ ?_; clear hK K
  first | refine W_seq (W_cond_f (by simp only [ev]) ?_) | refine W_cond_f (by simp only [ev, upd, ↓reduceIte]) ?_
  refine W_skip ?_; try simp only [thenQ]
  have l0 : ldn H2 5 ⟨k0, 0, none⟩ = some [vt, vl, vp, vn, vd] := by rw [ldn_row hb2]; rfl
  have hg2 := hg.ext hE
  have hk2 := RdI.ext hE hk
  obtain ⟨ak, ck, rfl⟩ := hk.opn'
  first | refine W_regK ?_ | refine W_seq (W_regK ?_)
  intro K hK; simp (maxSteps := 1000000) (disch := omega) only [BOps_nil, BOps_cons, Cont_eq, Bev, rd, ev, updO, upd, wantD, argf, optK_some, Nat.reduceEqDiff, ↓reduceIte, List.map, List.toList_toArray, Value.cells, Option.map_some, ld27, l0, bld73]
  have hd : Hd H2 [vt, vl, vp, vn, vd, .slice ak ks.length ck] g ks := ⟨⟨vt, vl, vp, vn, vd, .slice ak ks.length ck, rfl, hg2, hk2⟩, hok.sh, hkok.1, hkok.2⟩
  have hE3 := ((Ext.refl H2).push (.map #[] 0)).push (row 73 [vt, vl, vp, vn, vd, .slice ak ks.length ck, .map (some H2.size)])
  have hc3 := get_new (H2.push (.map #[] 0)) (row 73 [vt, vl, vp, vn, vd, .slice ak ks.length ck, .map (some H2.size)])
  have hm3 : ((H2.push (.map #[] 0)).push (row 73 [vt, vl, vp, vn, vd, .slice ak ks.length ck, .map (some H2.size)]))[H2.size]? = some (.map #[] 0) := ((Ext.refl (H2.push (.map #[] 0))).push _).get (get_new _ _)
  have hs : (H2.push (.map #[] 0)).size = H2.size + 1 := by simp
  generalize hc0 : (H2.push (.map #[] 0)).size = c at *
  have hCt : Ct H2 ((H2.push (.map #[] 0)).push (row 73 [vt, vl, vp, vn, vd, .slice ak ks.length ck, .map (some H2.size)])) c H2.size [vt, vl, vp, vn, vd, .slice ak ks.length ck] (fun _ => 0) :=
    ⟨hE3, by omega, Nat.le_refl _, hc3, ⟨[], hm3, by simp, fun a => .inl ⟨rfl, rfl⟩⟩, ⟨fun _ => Int.le_refl 0, fun _ => by omega⟩⟩
  clear hE3 hc3 hm3
  generalize (H2.push (.map #[] 0)).push _ = H3 at *
  refine hK _ _ ?_; clear hK K
  first | refine W_seq (W_block (W_loop (fun z f H' => ∃ W : Ways, z = mu W L ∧ f 7 = .pointer (some ⟨c, 0, none⟩) ∧ f 1 = .slice ak ks.length ck ∧ Ct H2 H' c H2.size [vt, vl, vp, vn, vd, .slice ak ks.length ck] W ∧ (∀ x, 0 < W x → InB x) ∧ ∀ V, WOk V → Pre g ks V → ∀ x, W x ≤ V x) (mu (fun _ => 0) L) ?_ ?_)) | refine W_block (W_loop (fun z f H' => ∃ W : Ways, z = mu W L ∧ f 7 = .pointer (some ⟨c, 0, none⟩) ∧ f 1 = .slice ak ks.length ck ∧ Ct H2 H' c H2.size [vt, vl, vp, vn, vd, .slice ak ks.length ck] W ∧ (∀ x, 0 < W x → InB x) ∧ ∀ V, WOk V → Pre g ks V → ∀ x, W x ≤ V x) (mu (fun _ => 0) L) ?_ ?_)
  · exact ⟨fun _ => 0, rfl, by simp [upd], by simp [upd, argf], hCt, fun x hx => absurd hx (by simp), fun V hv _ x => hv.lo x⟩
  clear hCt H3
  rintro z f H3 ⟨W, rfl, g7, g1, hCt, hdom, hmin⟩
  first | refine W_regK ?_ | refine W_seq (W_regK ?_)
  intro K hK; simp (maxSteps := 1000000) (disch := omega) only [BOps_cons, Cont_eq, Bev, rd, ev, updO, upd, wantD, optK_some, ↓reduceIte, List.map, List.map_toArray, List.append_toArray, List.append_nil, List.nil_append, g7]
  refine (cgrow_spec H2 H3 c H2.size _ W g ks hCt hd).mono ?_
  rintro r H4 ⟨fr, rfl, hCt4, hle, hfr⟩
  try simp (maxSteps := 1000000) (disch := omega) only [BOps_nil, Cont_eq, updO]
  refine hK _ _ ?_; clear hK K
  first | refine W_if (t := _) (by simp only [ev]; rfl) ?_ ?_ | refine W_cond (t := _) (by simp only [ev, upd, ↓reduceIte]; rfl) ?_ ?_
  · intro hc
    obtain ⟨x, hx⟩ := hfr.1 hc
    refine W_skip ?_; try simp only [thenQ]
    first | refine W_seq (W_block ?_) | refine W_block ?_
    refine W_skip ?_; try simp only [thenQ, blockQ]
    have hdom4 := upD_dom hok.sh hkl60 (ks.length + 1) hCt.ok hdom (Nat.le_refl _)
    refine ⟨_, mu_lt hle hCt4.ok (hL x (hdom4 x (by have := hCt.ok.lo x; omega))) hx, _, rfl, by simp [upd, g7], by simp [upd, g1], hCt4, hdom4, ?_⟩
    intro V hv hp x
    exact upD_le hv hp _ hCt.ok (hmin V hv hp) (Nat.le_refl _) x
  · intro hc
    refine W_exit ?_; simp only [thenQ, blockQ, ↓reduceIte]
    have hfix : ∀ x, upD g ks (ks.length + 1) W x ≤ W x := by
      intro x
      refine Classical.byContradiction fun hn => ?_
      have := hfr.2 ⟨x, by omega⟩
      rw [hc] at this; cases this
    have heq : upD g ks (ks.length + 1) W = W := by
      funext x
      have := hfix x; have := hle x; omega
    rw [heq] at hCt4
    have l6 : ldc H4 ⟨c, 6, none⟩ = some (.map (some H2.size)) := by rw [ldc_row hCt4.cb]; rfl
    have hlk := hCt4.mi.lk 0 0 ks.length
    first | refine W_regK ?_ | refine W_seq (W_regK ?_)
    intro K hK; simp (maxSteps := 1000000) (disch := omega) only [BOps_nil, BOps_cons, Cont_eq, Bev, rd, rdB, ev, updO, upd, wantD, optK_some, lenV, Nat.reduceEqDiff, ↓reduceIte, List.map, Nat.zero_add, u28, ld71, fld73_2, g1, g7, l6, bld75, hlk]
    refine hK _ _ ?_; clear hK K
    refine W_ret ?_; simp only [retQ, Try.results12, resV2, Option.some.injEq, exists_eq_left', upd, Nat.reduceEqDiff, ↓reduceIte, List.toList_toArray, ne_eq]
    exact ⟨hE.trans hCt4.ext, _, 0, rfl, by rw [c1] at hC; exact hC, fun _ => ⟨W, hCt.ok, pre_of_fix hfix, hmin, rfl⟩, fun h => absurd rfl h⟩
end Go.Proofs.Yteheedbhmggcgaa
