import Derived.Test.YteheedbhmggcgaaEN
namespace Go.Proofs.Yteheedbhmggcgaa
open Go Go.Vy Go.Proofs
set_option linter.unusedSimpArgs false
set_option linter.unusedVariables false
theorem ms22_2 (H : Hp) (K : Value → Hp → Prop) : mkSlK Try.prog 22 (.int .i64 2) (.int .i64 2) H K = K (.slice (some ⟨H.size, 0, none⟩) 2 2) (H.push (row 9 (List.replicate 2 (Value.string ⟨#[]⟩)))) := by
  unfold mkSlK
  simp [slT22, hz9, zc9, rep_one]
theorem ms22_3 (H : Hp) (K : Value → Hp → Prop) : mkSlK Try.prog 22 (.int .i64 3) (.int .i64 3) H K = K (.slice (some ⟨H.size, 0, none⟩) 3 3) (H.push (row 9 (List.replicate 3 (Value.string ⟨#[]⟩)))) := by
  unfold mkSlK
  simp [slT22, hz9, zc9, rep_one]
theorem ms23_2 (H : Hp) (K : Value → Hp → Prop) : mkSlK Try.prog 23 (.int .i64 2) (.int .i64 2) H K = K (.slice (some ⟨H.size, 0, none⟩) 2 2) (H.push (row 42 (List.flatten (List.replicate 2 [iv 0, iv 0])))) := by
  have : rep 2 [Value.int .i64 0, .int .i64 0] = List.flatten (List.replicate 2 [iv 0, iv 0]) := by simp [rep, Builtin.zeroCells, List.range_succ, List.replicate]
  unfold mkSlK
  simp [slT23, hz42, zc42, this]
theorem ms23_3 (H : Hp) (K : Value → Hp → Prop) : mkSlK Try.prog 23 (.int .i64 3) (.int .i64 3) H K = K (.slice (some ⟨H.size, 0, none⟩) 3 3) (H.push (row 42 (List.flatten (List.replicate 3 [iv 0, iv 0])))) := by
  have : rep 3 [Value.int .i64 0, .int .i64 0] = List.flatten (List.replicate 3 [iv 0, iv 0]) := by simp [rep, Builtin.zeroCells, List.range_succ, List.replicate]
  unfold mkSlK
  simp [slT23, hz42, zc42, this]
theorem flat_at {sz : Nat} : ∀ (es : List (List Value)) (i : Nat) (hi : i < es.length), (∀ l ∈ es, l.length = sz) → (es.flatten.drop (i * sz)).take sz = es[i]
  | [], i, hi, _ => by simp at hi
  | l :: r, 0, hi, h => by
    have := h l (by simp)
    simp [← this]
  | l :: r, i + 1, hi, h => by
    have h1 := h l (by simp)
    have := flat_at r i (by simpa using hi) (fun x hx => h x (by simp [hx]))
    rw [List.flatten_cons, show (i + 1) * sz = l.length + i * sz by rw [h1, Nat.succ_mul]; omega, ← List.drop_drop]
    simpa using this
theorem flat_length {sz : Nat} : ∀ (es : List (List Value)), (∀ l ∈ es, l.length = sz) → es.flatten.length = es.length * sz
  | [], _ => by simp
  | l :: r, h => by
    have := flat_length r (fun x hx => h x (by simp [hx]))
    rw [List.flatten_cons, List.length_append, h l (by simp), this, List.length_cons, Nat.succ_mul]; omega
theorem rde_at (H : Hp) (b : Nat) (E : TypeId) (sz : Nat) (es : List (List Value)) (n : Nat) (hb : H[b]? = some (row E es.flatten)) (hn : n = es.length) (h : ∀ l ∈ es, l.length = sz) : Rde H (.slice (some ⟨b, 0, none⟩) n n) sz es := by
  subst hn
  refine ⟨some ⟨b, 0, none⟩, es.length, rfl, Nat.le_refl _, fun i hi => ⟨b, 0, rfl, ?_⟩⟩
  have hl := flat_length es h
  have : i * sz + sz ≤ es.length * sz := by rw [← Nat.succ_mul]; exact Nat.mul_le_mul_right _ hi
  rw [ldn_row hb, if_pos (by omega), Nat.zero_add, flat_at es i hi h]
theorem rd_rep (H : Hp) (b : Nat) (E : TypeId) (xs : List Value) (n : Nat) (hb : H[b]? = some (row E xs)) (hn : n = xs.length) : Rd H (.slice (some ⟨b, 0, none⟩) n n) xs := by
  subst hn
  refine ⟨some ⟨b, 0, none⟩, xs.length, rfl, Nat.le_refl _, fun i hi => ⟨b, 0, rfl, ?_⟩⟩
  rw [Nat.zero_add, ldc_row hb]
theorem rdI_at (H : Hp) (b : Nat) (xs : List Int) (n : Nat) (hb : H[b]? = some (row 3 (xs.map iv))) (hn : n = xs.length) : RdI H (.slice (some ⟨b, 0, none⟩) n n) xs := rd_rep H b 3 _ n hb (by simpa using hn)
/-- What is so of a heap, and of every one that has the same blocks from a place on. -/
def Far (S : Nat) (H : Hp) (X : Hp → Prop) : Prop := ∀ H' : Hp, (∀ b y, S ≤ b → H[b]? = some y → H'[b]? = some y) → X H'
theorem Far.ext {S : Nat} {H H' : Hp} {X : Hp → Prop} (e : Ext H H') (h : Far S H X) : Far S H' X := fun H2 hh => h H2 fun b y hb hy => hh b y hb (e.get hy)
theorem bld27 (a b d e : Option Addr) (na nb nd ne ca cb cd ce : Nat) : bldV Try.prog 27 [(0, .slice a na ca), (1, .slice b nb cb), (3, .slice d nd cd), (4, .slice e ne ce)] = some (.agg #[.slice a na ca, .slice b nb cb, .slice none 0 0, .slice d nd cd, .slice e ne ce]) := by
  simp [bldV, plc27, hz27, zc27, bld, ow, Value.cells]
theorem bsl25_3 (H : Hp) (K : Value → Hp → Prop) (a0 b0 c0 : Int) (p0 : Option Addr) (n0 k0 : Nat) (a1 b1 c1 : Int) (p1 : Option Addr) (n1 k1 : Nat) (a2 b2 c2 : Int) (p2 : Option Addr) (n2 k2 : Nat) : bslK Try.prog 25 3 [(0, .agg #[.int .i64 a0, .slice p0 n0 k0, .int .i64 b0, .int .i64 c0]), (1, .agg #[.int .i64 a1, .slice p1 n1 k1, .int .i64 b1, .int .i64 c1]), (2, .agg #[.int .i64 a2, .slice p2 n2 k2, .int .i64 b2, .int .i64 c2])] H K = K (.slice (some ⟨H.size, 0, none⟩) 3 3) (H.push (row 44 (List.flatten [[.int .i64 a0, .slice p0 n0 k0, .int .i64 b0, .int .i64 c0], [.int .i64 a1, .slice p1 n1 k1, .int .i64 b1, .int .i64 c1], [.int .i64 a2, .slice p2 n2 k2, .int .i64 b2, .int .i64 c2]]))) := by
  have hb : bld (fun i => some (i * 4, 4)) (rep 3 [Value.int .i64 0, .slice none 0 0, .int .i64 0, .int .i64 0]) [(0, .agg #[.int .i64 a0, .slice p0 n0 k0, .int .i64 b0, .int .i64 c0]), (1, .agg #[.int .i64 a1, .slice p1 n1 k1, .int .i64 b1, .int .i64 c1]), (2, .agg #[.int .i64 a2, .slice p2 n2 k2, .int .i64 b2, .int .i64 c2])] = some (List.flatten [[.int .i64 a0, .slice p0 n0 k0, .int .i64 b0, .int .i64 c0], [.int .i64 a1, .slice p1 n1 k1, .int .i64 b1, .int .i64 c1], [.int .i64 a2, .slice p2 n2 k2, .int .i64 b2, .int .i64 c2]]) := by
    simp [bld, rep, Builtin.zeroCells, ow, Value.cells, Array.range]
  unfold bslK
  simp only [slT25, zc44, hz44]
  rw [hb]
  simp
theorem bsl25_4 (H : Hp) (K : Value → Hp → Prop) (a0 b0 c0 : Int) (p0 : Option Addr) (n0 k0 : Nat) (a1 b1 c1 : Int) (p1 : Option Addr) (n1 k1 : Nat) (a2 b2 c2 : Int) (p2 : Option Addr) (n2 k2 : Nat) (a3 b3 c3 : Int) (p3 : Option Addr) (n3 k3 : Nat) : bslK Try.prog 25 4 [(0, .agg #[.int .i64 a0, .slice p0 n0 k0, .int .i64 b0, .int .i64 c0]), (1, .agg #[.int .i64 a1, .slice p1 n1 k1, .int .i64 b1, .int .i64 c1]), (2, .agg #[.int .i64 a2, .slice p2 n2 k2, .int .i64 b2, .int .i64 c2]), (3, .agg #[.int .i64 a3, .slice p3 n3 k3, .int .i64 b3, .int .i64 c3])] H K = K (.slice (some ⟨H.size, 0, none⟩) 4 4) (H.push (row 44 (List.flatten [[.int .i64 a0, .slice p0 n0 k0, .int .i64 b0, .int .i64 c0], [.int .i64 a1, .slice p1 n1 k1, .int .i64 b1, .int .i64 c1], [.int .i64 a2, .slice p2 n2 k2, .int .i64 b2, .int .i64 c2], [.int .i64 a3, .slice p3 n3 k3, .int .i64 b3, .int .i64 c3]]))) := by
  have hb : bld (fun i => some (i * 4, 4)) (rep 4 [Value.int .i64 0, .slice none 0 0, .int .i64 0, .int .i64 0]) [(0, .agg #[.int .i64 a0, .slice p0 n0 k0, .int .i64 b0, .int .i64 c0]), (1, .agg #[.int .i64 a1, .slice p1 n1 k1, .int .i64 b1, .int .i64 c1]), (2, .agg #[.int .i64 a2, .slice p2 n2 k2, .int .i64 b2, .int .i64 c2]), (3, .agg #[.int .i64 a3, .slice p3 n3 k3, .int .i64 b3, .int .i64 c3])] = some (List.flatten [[.int .i64 a0, .slice p0 n0 k0, .int .i64 b0, .int .i64 c0], [.int .i64 a1, .slice p1 n1 k1, .int .i64 b1, .int .i64 c1], [.int .i64 a2, .slice p2 n2 k2, .int .i64 b2, .int .i64 c2], [.int .i64 a3, .slice p3 n3 k3, .int .i64 b3, .int .i64 c3]]) := by
    simp [bld, rep, Builtin.zeroCells, ow, Value.cells, Array.range]
  unfold bslK
  simp only [slT25, zc44, hz44]
  rw [hb]
  simp
theorem gSums_fits : gSums.Fits := by
  refine ⟨by decide, by decide, by decide, by decide, by decide, by decide, ?_, ?_, ?_⟩ <;> (intro y hy; simp [gSums] at hy; try (subst hy; rfl))
def PhiSums (S : Nat) : Fact
  | 0, v, _, _, H => Far S H fun H => Rd H v (List.replicate 3 (Value.string ⟨#[]⟩))
  | 1, v, _, _, H => Far S H fun H => Rde H v 2 ((List.replicate 3 ((0 : Int), (0 : Int))).map fun x => [iv x.1, iv x.2])
  | 2, v, _, _, H => Far S H fun H => Rd H v (List.replicate 2 (Value.string ⟨#[]⟩))
  | 3, v, _, _, H => Far S H fun H => RdI H v [4]
  | 4, v, _, _, H => ∃ r k, v = .agg #[.int .i64 0, .slice r 1 k, .int .i64 0, .int .i64 0] ∧ Far S H fun H => RdI H (.slice r 1 k) [4]
  | 5, v, _, _, H => Far S H fun H => RdI H v [4, 2, 4]
  | 6, v, _, _, H => ∃ r k, v = .agg #[.int .i64 1, .slice r 3 k, .int .i64 0, .int .i64 0] ∧ Far S H fun H => RdI H (.slice r 3 k) [4, 2, 4]
  | 7, v, _, _, H => Far S H fun H => RdI H v [1]
  | 8, v, _, _, H => ∃ r k, v = .agg #[.int .i64 1, .slice r 1 k, .int .i64 0, .int .i64 0] ∧ Far S H fun H => RdI H (.slice r 1 k) [1]
  | 9, v, _, _, H => ∃ es, Far S H fun H => Rde H v 4 es ∧ es.length = gSums.prods.length ∧ ∀ (i : Nat) (h : i < es.length) (k : i < gSums.prods.length), PrV H es[i] gSums.prods[i]
  | 10, v, _, _, H => ∃ vt vl vp vn vd, v = .agg #[vt, vl, vp, vn, vd] ∧ Far S H fun H => GV H vt vl vp vn vd gSums
  | _, _, _, _, _ => True
theorem PhiSums_st (S : Nat) : ∀ i v lo hi H1 H2, Ext H1 H2 → PhiSums S i v lo hi H1 → PhiSums S i v lo hi H2 := by
  intro i v lo hi H1 H2 e hp
  match i, hp with
  | 0, hp => exact Far.ext e hp
  | 1, hp => exact Far.ext e hp
  | 2, hp => exact Far.ext e hp
  | 3, hp => exact Far.ext e hp
  | 4, hp => obtain ⟨r, k, h1, h2⟩ := hp; exact ⟨r, k, h1, h2.ext e⟩
  | 5, hp => exact Far.ext e hp
  | 6, hp => obtain ⟨r, k, h1, h2⟩ := hp; exact ⟨r, k, h1, h2.ext e⟩
  | 7, hp => exact Far.ext e hp
  | 8, hp => obtain ⟨r, k, h1, h2⟩ := hp; exact ⟨r, k, h1, h2.ext e⟩
  | 9, hp => obtain ⟨es, h1⟩ := hp; exact ⟨es, h1.ext e⟩
  | 10, hp => obtain ⟨vt, vl, vp, vn, vd, h1, h2⟩ := hp; exact ⟨vt, vl, vp, vn, vd, h1, h2.ext e⟩
  | i + 11, hp => trivial
theorem sums_spec (H : Hp) : CallsV Try.prog 16 [].toArray H (fun r H' => Ext H H' ∧ ∃ vt vl vp vn vd, r = .agg #[vt, vl, vp, vn, vd] ∧ GV H' vt vl vp vn vd gSums) := by
  refine calls_W (m := 12) Try.call16 Try.func16 rfl rfl (by decide +kernel) (by simp) ?_
  first | refine W_regK ?_ | refine W_seq (W_regK ?_)
  intro K hK; simp (maxSteps := 1000000) (disch := omega) only [BOps_nil, BOps_cons, Cont_eq, Bev, updO, wantD, argf, ↓reduceIte, List.map, hz27, zc27, hz27]
  refine hK _ _ ?_; clear hK K
  have hb0 := get_new H (row 27 [.slice none 0 0, .slice none 0 0, .slice none 0 0, .slice none 0 0, .slice none 0 0])
  have hE0 := (Ext.refl H).push (row 27 [.slice none 0 0, .slice none 0 0, .slice none 0 0, .slice none 0 0, .slice none 0 0])
  generalize hk0 : H.size = k0 at hb0 ⊢
  generalize H.push (row 27 [.slice none 0 0, .slice none 0 0, .slice none 0 0, .slice none 0 0, .slice none 0 0]) = H0 at hb0 hE0 ⊢
  refine W_parK 11 100 Ext (PhiSums H0.size) mixed (by decide +kernel) .base ?_ ?_ ?_
  · intro i v lo hi Hx Hy hx hp
    have hx : Ext Hx Hy := by split at hx <;> exact hx
    exact PhiSums_st _ i v lo hi Hx Hy hx hp
  · simp only [ParSteps, List.take_succ_cons, List.take_zero]
    refine ⟨?_, ?_, ?_, ?_, ?_, ?_, ?_, ?_, ?_, ?_, ?_, trivial⟩
    · intro f1 Hy hx hout hdep; simp [depsOf, Region.binds, DepFacts] at hdep
      have hx : Ext H0 Hy := hx
      have hxs := hx.size
      simp (maxSteps := 1000000) (disch := omega) only [wantB, Bev, ev, ↓reduceIte, reduceCtorEq, PhiSums, ms22_3]
      exact ⟨(Ext.refl _).push _, fun H' hh => rd_rep _ _ _ _ _ (hh _ _ hxs (get_new _ _)) rfl⟩
    · intro f1 Hy hx hout hdep; simp [depsOf, Region.binds, DepFacts] at hdep
      have hx : Ext H0 Hy := hx
      have hxs := hx.size
      simp (maxSteps := 1000000) (disch := omega) only [wantB, Bev, ev, Nat.reduceEqDiff, ↓reduceIte, Nat.zero_add, PhiSums, ms23_3]
      exact ⟨(Ext.refl _).push _, fun H' hh => rde_at _ _ 42 2 (List.replicate 3 [iv 0, iv 0]) 3 (hh _ _ hxs (get_new _ _)) rfl (by simp)⟩
    · intro f1 Hy hx hout hdep; simp [depsOf, Region.binds, DepFacts] at hdep
      have hx : Ext H0 Hy := hx
      have hxs := hx.size
      simp (maxSteps := 1000000) (disch := omega) only [wantB, Bev, ev, Nat.reduceEqDiff, ↓reduceIte, Nat.reduceAdd, Nat.zero_add, PhiSums, ms22_2]
      exact ⟨(Ext.refl _).push _, fun H' hh => rd_rep _ _ _ _ _ (hh _ _ hxs (get_new _ _)) rfl⟩
    · intro f1 Hy hx hout hdep; simp [depsOf, Region.binds, DepFacts] at hdep
      have hx : Ext H0 Hy := hx
      have hxs := hx.size
      simp (maxSteps := 1000000) (disch := omega) only [wantB, Bev, ev, Nat.reduceEqDiff, ↓reduceIte, List.map, Nat.reduceAdd, Nat.zero_add, PhiSums, bslI1]
      exact ⟨(Ext.refl _).push _, fun H' hh => rdI_at _ _ _ _ (hh _ _ hxs (get_new _ _)) rfl⟩
    · intro f1 Hy hx hout hdep; simp [depsOf, Region.binds, DepFacts, factAt, dstAt, PhiSums] at hdep
      have hx : Ext H0 Hy := hx
      have hxs := hx.size
      have hdep := hdep
      obtain ⟨pr, pk, pe⟩ := (hdep Hy fun b y _ h => h).opn'
      simp (maxSteps := 1000000) (disch := omega) only [wantB, Bev, ev, Nat.reduceEqDiff, ↓reduceIte, List.map, List.map_toArray, List.append_toArray, List.append_nil, List.nil_append, List.length_cons, List.length_nil, Nat.reduceAdd, Nat.zero_add, PhiSums, pe]
      rw [pe] at hdep
      refine (p_spec _ _ _ _ _).mono ?_
      rintro r H' ⟨e, rfl⟩
      exact ⟨e, _, _, rfl, hdep.ext e⟩
    · intro f1 Hy hx hout hdep; simp [depsOf, Region.binds, DepFacts] at hdep
      have hx : Ext H0 Hy := hx
      have hxs := hx.size
      simp (maxSteps := 1000000) (disch := omega) only [wantB, Bev, ev, Nat.reduceEqDiff, ↓reduceIte, List.map, Nat.reduceAdd, Nat.zero_add, PhiSums, bslI3]
      exact ⟨(Ext.refl _).push _, fun H' hh => rdI_at _ _ _ _ (hh _ _ hxs (get_new _ _)) rfl⟩
    · intro f1 Hy hx hout hdep; simp [depsOf, Region.binds, DepFacts, factAt, dstAt, PhiSums] at hdep
      have hx : Ext H0 Hy := hx
      have hxs := hx.size
      have hdep := hdep.1
      obtain ⟨pr, pk, pe⟩ := (hdep Hy fun b y _ h => h).opn'
      simp (maxSteps := 1000000) (disch := omega) only [wantB, Bev, ev, Nat.reduceEqDiff, ↓reduceIte, List.map, List.map_toArray, List.append_toArray, List.append_nil, List.nil_append, List.length_cons, List.length_nil, Nat.reduceAdd, Nat.zero_add, PhiSums, pe]
      rw [pe] at hdep
      refine (p_spec _ _ _ _ _).mono ?_
      rintro r H' ⟨e, rfl⟩
      exact ⟨e, _, _, rfl, hdep.ext e⟩
    · intro f1 Hy hx hout hdep; simp [depsOf, Region.binds, DepFacts] at hdep
      have hx : Ext H0 Hy := hx
      have hxs := hx.size
      simp (maxSteps := 1000000) (disch := omega) only [wantB, Bev, ev, Nat.reduceEqDiff, ↓reduceIte, List.map, Nat.reduceAdd, Nat.zero_add, PhiSums, bslI1]
      exact ⟨(Ext.refl _).push _, fun H' hh => rdI_at _ _ _ _ (hh _ _ hxs (get_new _ _)) rfl⟩
    · intro f1 Hy hx hout hdep; simp [depsOf, Region.binds, DepFacts, factAt, dstAt, PhiSums] at hdep
      have hx : Ext H0 Hy := hx
      have hxs := hx.size
      have hdep := hdep.1
      obtain ⟨pr, pk, pe⟩ := (hdep Hy fun b y _ h => h).opn'
      simp (maxSteps := 1000000) (disch := omega) only [wantB, Bev, ev, Nat.reduceEqDiff, ↓reduceIte, List.map, List.map_toArray, List.append_toArray, List.append_nil, List.nil_append, List.length_cons, List.length_nil, Nat.reduceAdd, Nat.zero_add, PhiSums, pe]
      rw [pe] at hdep
      refine (p_spec _ _ _ _ _).mono ?_
      rintro r H' ⟨e, rfl⟩
      exact ⟨e, _, _, rfl, hdep.ext e⟩
    · intro f1 Hy hx hout hdep; simp [depsOf, Region.binds, DepFacts, factAt, dstAt, PhiSums] at hdep
      have hx : Ext H0 Hy := hx
      have hxs := hx.size
      obtain ⟨⟨r0, k0, hc0, hr0⟩, ⟨r1, k1, hc1, hr1⟩, ⟨r2, k2, hc2, hr2⟩⟩ := hdep
      simp (maxSteps := 1000000) (disch := omega) only [wantB, Bev, ev, Nat.reduceEqDiff, ↓reduceIte, List.map, Nat.reduceAdd, Nat.zero_add, PhiSums, hc0, hc1, hc2, bsl25_3]
      have hE := (Ext.refl Hy).push (row 44 (List.flatten [[.int .i64 0, .slice r0 1 k0, .int .i64 0, .int .i64 0], [.int .i64 1, .slice r1 3 k1, .int .i64 0, .int .i64 0], [.int .i64 1, .slice r2 1 k2, .int .i64 0, .int .i64 0]]))
      refine ⟨hE, _, fun H' hh => ⟨rde_at H' Hy.size 44 4 [[.int .i64 0, .slice r0 1 k0, .int .i64 0, .int .i64 0], [.int .i64 1, .slice r1 3 k1, .int .i64 0, .int .i64 0], [.int .i64 1, .slice r2 1 k2, .int .i64 0, .int .i64 0]] 3 (hh _ _ hxs (get_new _ _)) rfl (by simp), rfl, ?_⟩⟩
      intro i h k
      match i, h with
      | 0, _ => exact ⟨_, rfl, (hr0.ext hE) H' hh⟩
      | 1, _ => exact ⟨_, rfl, (hr1.ext hE) H' hh⟩
      | 2, _ => exact ⟨_, rfl, (hr2.ext hE) H' hh⟩
      | i + 3, h => simp at h; omega
    · intro f1 Hy hx hout hdep; simp [depsOf, Region.binds, DepFacts, factAt, dstAt, PhiSums] at hdep
      have hx : Ext H0 Hy := hx
      have hxs := hx.size
      obtain ⟨ht, hl, hn, es, hd⟩ := hdep
      obtain ⟨at_, ct, et, -⟩ := ht Hy fun b y _ h => h; obtain ⟨al, cl, el⟩ := (hl Hy fun b y _ h => h).opn'; obtain ⟨an, cn, en, -⟩ := hn Hy fun b y _ h => h; obtain ⟨ad, cd, ed⟩ := (hd Hy fun b y _ h => h).1.opn'
      simp (maxSteps := 1000000) (disch := omega) only [wantB, Bev, ev, optK_some, Nat.reduceEqDiff, ↓reduceIte, List.map, List.length_cons, List.length_nil, Nat.reduceAdd, Nat.zero_add, PhiSums, et, el, en, ed, bld27]
      rw [et] at ht; rw [el] at hl; rw [en] at hn; rw [ed] at hd
      exact ⟨.refl _, _, _, _, _, _, rfl, fun H' hh => ⟨gSums_fits, ht H' hh, hl H' hh, Rde.nil _ _, hn H' hh, es, hd H' hh⟩⟩
  intro K hK f1 H1 lo hi hx hout hf hdis
  have hx : Ext H0 H1 := hx
  have hf10 := (hf 10 (by omega)).1
  simp [factAt, dstAt, PhiSums] at hf10
  obtain ⟨vt, vl, vp, vn, vd, hv, hg⟩ := hf10
  simp only [List.drop_succ_cons, List.drop_zero]
  have hgx := hg H1 fun b y _ h => h
  obtain ⟨at_, ct, al, cl, ap, cp, an, cn, ad, cd, rfl, rfl, rfl, rfl, rfl⟩ := hgx.lens
  have e0 : f1 0 = .pointer (some ⟨k0, 0, none⟩) := by rw [hout 0 (by decide +kernel)]; simp [upd]
  have hst : stn H1 ⟨k0, 0, none⟩ [.slice at_ gSums.nt ct, .slice al gSums.lev.length cl, .slice ap gSums.pats.length cp, .slice an gSums.nn cn, .slice ad gSums.prods.length cd] = some (H1.setIfInBounds k0 (row 27 [.slice at_ gSums.nt ct, .slice al gSums.lev.length cl, .slice ap gSums.pats.length cp, .slice an gSums.nn cn, .slice ad gSums.prods.length cd])) := by
    rw [stn_row (hx.get hb0) (by simp) rfl]; rfl
  try simp (maxSteps := 1000000) (disch := omega) only [optH_some, BOps_nil, BOps_cons, Cont_eq, Bev, ev, updO, wantD, optH_some, ↓reduceIte, List.map, List.toList_toArray, Value.cells, List.size_toArray, List.length_cons, List.length_nil, Nat.reduceAdd, Nat.zero_add, st27, e0, hv, hst]
  refine hK _ _ ?_; clear hK K
  have hb1 := get_set (lt_of_get (hx.get hb0)) (row 27 [.slice at_ gSums.nt ct, .slice al gSums.lev.length cl, .slice ap gSums.pats.length cp, .slice an gSums.nn cn, .slice ad gSums.prods.length cd])
  have hg2 := hg (H1.setIfInBounds k0 (row 27 [.slice at_ gSums.nt ct, .slice al gSums.lev.length cl, .slice ap gSums.pats.length cp, .slice an gSums.nn cn, .slice ad gSums.prods.length cd])) fun b y hb hy => by rw [get_set_ne (fun e => by have := lt_of_get hb0; omega)]; exact hy
  have hE2 := (hE0.trans hx).set (by omega : H.size ≤ k0) (row 27 [.slice at_ gSums.nt ct, .slice al gSums.lev.length cl, .slice ap gSums.pats.length cp, .slice an gSums.nn cn, .slice ad gSums.prods.length cd])
  generalize H1.setIfInBounds k0 _ = H2 at *
  have hl : ld Try.prog H2 27 ⟨k0, 0, none⟩ = some (.agg ([Value.slice at_ gSums.nt ct, Value.slice al gSums.lev.length cl, Value.slice ap gSums.pats.length cp, Value.slice an gSums.nn cn, Value.slice ad gSums.prods.length cd]).toArray) := by
    rw [ld27, ldn_row hb1]; rfl
  refine W_ret ?_; simp only [retQ, Try.results16, List.toList_toArray]
  rw [resVc (by simp [e0]) hl]
  exact ⟨_, rfl, hE2, _, _, _, _, _, rfl, hg2⟩
end Go.Proofs.Yteheedbhmggcgaa
