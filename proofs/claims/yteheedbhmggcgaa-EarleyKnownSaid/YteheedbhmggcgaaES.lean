import Derived.Test.YteheedbhmggcgaaEQ
namespace Go.Proofs.Yteheedbhmggcgaa
open Go Go.Vy Go.Proofs
set_option linter.unusedSimpArgs false
set_option linter.unusedVariables false
/-- A slice of one's own reads as such. -/
theorem own_rde2 {H : Hp} {v : Value} {E : TypeId} {sz : Nat} {es : List (List Value)} {B : Option Nat} (h : Own H v E sz es.length es.flatten B) (hl : ∀ l ∈ es, l.length = sz) : Rde H v sz es := by
  obtain ⟨h1, ⟨rfl, rfl, h2⟩ | ⟨k, cap, sp, rfl, rfl, h4, h5, h6⟩⟩ := h
  · have : es = [] := List.eq_nil_of_length_eq_zero h2
    subst this; exact Rde.nil H sz
  · refine ⟨some ⟨k, 0, none⟩, cap, by simp, by simpa using h4, fun i hi => ⟨k, 0, rfl, ?_⟩⟩
    have hfl := flat_length es hl
    have : i * sz + sz ≤ es.length * sz := by rw [← Nat.succ_mul]; exact Nat.mul_le_mul_right _ hi
    rw [ldn_row h5, if_pos (by rw [List.length_append]; omega), Nat.zero_add, List.drop_append, List.take_append_of_le_length (by rw [List.length_drop]; omega), flat_at es i hi hl]
/-- A thing of one's own: a slice, and its block. -/
structure OR where
  v : Value
  E : TypeId
  sz : Nat
  n : Nat
  l : List Value
  B : Option Nat
/-- Things of one's own, from block S on; none in the block b3, nor in Bd. -/
def Kp (S : Nat) (H : Hp) (L : List OR) (b3 : Nat) (Bd : Option Nat) : Prop := ∀ x ∈ L, Own H x.v x.E x.sz x.n x.l x.B ∧ ∀ b, x.B = some b → S ≤ b ∧ b ≠ b3 ∧ Bd ≠ some b
theorem Kp.keep {S : Nat} {H H' : Hp} {L : List OR} {b3 : Nat} {Bd Bd' : Option Nat} (h : Kp S H L b3 Bd) (hk : ∀ b, b < H.size → b ≠ b3 → Bd ≠ some b → H'[b]? = H[b]?) (hB : Bd' = Bd ∨ ∃ nb, H.size ≤ nb ∧ Bd' = some nb) : Kp S H' L b3 Bd' := by
  intro x hx
  obtain ⟨h1, h2⟩ := h x hx
  refine ⟨h1.keep fun b e => hk b (h1.lt b e) (h2 b e).2.1 (h2 b e).2.2, fun b e => ⟨(h2 b e).1, (h2 b e).2.1, ?_⟩⟩
  rcases hB with rfl | ⟨nb, h3, rfl⟩
  · exact (h2 b e).2.2
  · intro e2; injection e2 with e2; have := h1.lt b e; omega
def OwS (S : Nat) (H : Hp) (v : Value) (E : TypeId) (sz n : Nat) (l : List Value) : Prop := ∃ B, Own H v E sz n l B ∧ ∀ b, B = some b → S ≤ b
theorem OwS.ext {S : Nat} {H H' : Hp} {v : Value} {E : TypeId} {sz n : Nat} {l : List Value} (e : Ext H H') (h : OwS S H v E sz n l) : OwS S H' v E sz n l := by
  obtain ⟨B, h1, h2⟩ := h
  exact ⟨B, h1.keep fun b e2 => e.blk b (h1.lt b e2), h2⟩
theorem OwS.sl {S : Nat} {H : Hp} {v : Value} {E : TypeId} {sz n : Nat} {l : List Value} (h : OwS S H v E sz n l) : ∃ a c, v = .slice a n c := by
  obtain ⟨B, ⟨_, ⟨_, rfl, rfl⟩ | ⟨k, cap, sp, _, rfl, _⟩⟩, h2⟩ := h
  · exact ⟨_, _, rfl⟩
  · exact ⟨_, _, rfl⟩
theorem own_ne {H : Hp} {v : Value} {E E' : TypeId} {sz n : Nat} {l l' : List Value} {B : Option Nat} (h : Own H v E sz n l B) {b : Nat} (e : B = some b) {b' : Nat} (hb : H[b']? = some (row E' l')) (hE : E ≠ E') : b ≠ b' := by
  intro eb
  subst eb
  obtain ⟨_, ⟨rfl, _⟩ | ⟨k, cap, sp, rfl, _, _, h5, _⟩⟩ := h
  · cases e
  · injection e with e; subst e
    rw [hb] at h5
    injection h5 with h5
    unfold row at h5
    injection h5 with _ h5 _
    exact hE h5.symm
/-- An append onto nothing: a slice of one's own. -/
theorem appK_nil {t E : TypeId} {K : Value → Hp → Prop} {sz by_ k S : Nat} {x : Value} {ys : List Value} {H : Hp} (ht : slT Try.prog t = some (E, sz, by_)) (hx : cellsOfSl H sz x = some (k, ys)) (hyl : ys.length = k * sz)
    (h1 : ∀ y ∈ ys, y.oneCell' = true) (hz : hasZero Try.prog E = true) (hzl : (zc Try.prog E).length = sz) (hb : k * by_ ≤ 2 ^ 48) (hb2 : k ≤ 2 ^ 48) (hS : S ≤ H.size)
    (hK : ∀ v' H', Ext H H' → OwS S H' v' E sz k ys → K v' H') : appK Try.prog t (.slice none 0 0) x H K := by
  simp only [appK, ht]
  refine ⟨k, ys, hx, fun hle => ?_, fun hgt => ⟨?_, by omega, hz, [], rfl, fun nc hnc => ?_⟩⟩
  · have hk : k = 0 := by omega
    subst hk
    have : ys = [] := List.eq_nil_of_length_eq_zero (by simpa using hyl)
    subst this
    exact ⟨rfl, hK _ _ (.refl H) ⟨none, Own.nil H E sz, by simp⟩⟩
  · have e : Builtin.nextslicecap (0 + k) 0 = k := by
      unfold Builtin.nextslicecap
      rw [Nat.zero_add, if_pos (by omega)]
    rw [e]; exact hb
  · refine hK _ _ ((Ext.refl H).push _) ⟨some H.size, ?_, fun b e => by injection e with e; omega⟩
    rw [Nat.zero_add, List.nil_append] 
    refine ⟨hyl, .inr ⟨H.size, nc, rep (nc - k) (zc Try.prog E), rfl, rfl, by omega, get_new _ _, ?_⟩⟩
    rw [rep_length, hzl, hyl, ← Nat.add_mul]
    congr 1; omega
theorem rd_cells {H : Hp} {v : Value} {xs : List Value} (h : Rd H v xs) : cellsOfSl H 1 v = some (xs.length, xs) := by
  obtain ⟨ys, h1, h2⟩ := h.rde.cells
  rw [h1, h2]
  have : (List.map (fun x => [x]) xs).flatten = xs := by
    clear h1 h2 h
    induction xs with
    | nil => rfl
    | cons a l ih => simp [ih]
  rw [this]; simp
def PhiC (g : Gm) (S b1 : Nat) (vt vl vp vn : Value) : Fact
  | 0, v, _, _, _ => v = .pointer (some ⟨b1, 0, none⟩)
  | 1, v, _, _, _ => v = vt
  | 2, v, _, _, H => OwS S H v 9 1 g.nt g.ts
  | 3, v, _, _, _ => v = .pointer (some ⟨b1, 1, none⟩)
  | 4, v, _, _, _ => v = vl
  | 5, v, _, _, H => OwS S H v 42 2 g.lev.length (g.lev.map fun x => [iv x.1, iv x.2]).flatten
  | 6, v, _, _, _ => v = .pointer (some ⟨b1, 2, none⟩)
  | 7, v, _, _, _ => v = vp
  | 8, v, _, _, H => OwS S H v 110 2 g.pats.length g.pats.flatten
  | 9, v, _, _, _ => v = .pointer (some ⟨b1, 3, none⟩)
  | 10, v, _, _, _ => v = vn
  | 11, v, _, _, H => OwS S H v 9 1 g.nn g.ns
  | 12, v, _, _, H => ∃ a0 c0 a1 c1 a2 c2 a3 c3, v = .agg #[.slice a0 g.nt c0, .slice a1 g.lev.length c1, .slice a2 g.pats.length c2, .slice a3 g.nn c3, .slice none 0 0] ∧
      OwS S H (.slice a0 g.nt c0) 9 1 g.nt g.ts ∧ OwS S H (.slice a1 g.lev.length c1) 42 2 g.lev.length (g.lev.map fun x => [iv x.1, iv x.2]).flatten ∧ OwS S H (.slice a2 g.pats.length c2) 110 2 g.pats.length g.pats.flatten ∧ OwS S H (.slice a3 g.nn c3) 9 1 g.nn g.ns
  | 13, v, _, _, H => ∃ b, S ≤ b ∧ v = .pointer (some ⟨b, 0, none⟩) ∧ H[b]? = some (row 27 [.slice none 0 0, .slice none 0 0, .slice none 0 0, .slice none 0 0, .slice none 0 0])
  | _, _, _, _, _ => True
theorem PhiC_st (g : Gm) (S b1 : Nat) (vt vl vp vn : Value) : ∀ i v lo hi H1 H2, Ext H1 H2 → PhiC g S b1 vt vl vp vn i v lo hi H1 → PhiC g S b1 vt vl vp vn i v lo hi H2 := by
  intro i v lo hi H1 H2 e hp
  match i, hp with
  | 0, hp | 1, hp | 3, hp | 4, hp | 6, hp | 7, hp | 9, hp | 10, hp => exact hp
  | 2, hp | 5, hp | 8, hp | 11, hp => exact OwS.ext e hp
  | 12, hp =>
    obtain ⟨a0, c0, a1, c1, a2, c2, a3, c3, h0, h1, h2, h3, h4⟩ := hp
    exact ⟨a0, c0, a1, c1, a2, c2, a3, c3, h0, h1.ext e, h2.ext e, h3.ext e, h4.ext e⟩
  | 13, hp => obtain ⟨b, h0, h1, h2⟩ := hp; exact ⟨b, h0, h1, e.get h2⟩
  | i + 14, hp => trivial
theorem bld27s (a b c d : Option Addr) (na nb nc nd ca cb cc cd : Nat) : bldV Try.prog 27 [(0, .slice a na ca), (1, .slice b nb cb), (2, .slice c nc cc), (3, .slice d nd cd)] = some (.agg #[.slice a na ca, .slice b nb cb, .slice c nc cc, .slice d nd cd, .slice none 0 0]) := by
  simp [bldV, plc27, hz27, zc27, bld, ow, Value.cells]
theorem bsl25_1 (H : Hp) (K : Value → Hp → Prop) (a b c : Int) (p : Option Addr) (n k : Nat) : bslK Try.prog 25 1 [(0, .agg #[.int .i64 a, .slice p n k, .int .i64 b, .int .i64 c])] H K = K (.slice (some ⟨H.size, 0, none⟩) 1 1) (H.push (row 44 [.int .i64 a, .slice p n k, .int .i64 b, .int .i64 c])) := by
  have hb : bld (fun i => some (i * 4, 4)) (rep 1 [Value.int .i64 0, .slice none 0 0, .int .i64 0, .int .i64 0]) [(0, .agg #[.int .i64 a, .slice p n k, .int .i64 b, .int .i64 c])] = some [.int .i64 a, .slice p n k, .int .i64 b, .int .i64 c] := by
    simp [bld, rep, Builtin.zeroCells, ow, Value.cells, Array.range]
  unfold bslK
  simp only [slT25, zc44, hz44]
  rw [hb]
  simp
/-- Productions of one's own: each one's cells, its right side in a block of its own. -/
structure PrO (S : Nat) (H : Hp) (es : List (List Value)) (ps : List Pr) (b3 : Nat) (Bd : Option Nat) : Prop where
  len : es.length = ps.length
  each : ∀ (i : Nat) (h : i < es.length) (k : i < ps.length), ∃ r B, es[i] = [iv ps[i].left, r, iv ps[i].ln, iv ps[i].lk] ∧ Own H r 3 1 ps[i].rhs.length (ps[i].rhs.map iv) B ∧ ∀ b, B = some b → S ≤ b ∧ b ≠ b3 ∧ Bd ≠ some b
theorem PrO.keep {S : Nat} {H H' : Hp} {es : List (List Value)} {ps : List Pr} {b3 : Nat} {Bd Bd' : Option Nat} (h : PrO S H es ps b3 Bd) (hk : ∀ b, b < H.size → b ≠ b3 → Bd ≠ some b → H'[b]? = H[b]?) (hB : Bd' = Bd ∨ ∃ nb, H.size ≤ nb ∧ Bd' = some nb) : PrO S H' es ps b3 Bd' := by
  refine ⟨h.len, fun i hi k => ?_⟩
  obtain ⟨r, B, h0, h1, h2⟩ := h.each i hi k
  refine ⟨r, B, h0, h1.keep fun b e => hk b (h1.lt b e) (h2 b e).2.1 (h2 b e).2.2, fun b e => ⟨(h2 b e).1, (h2 b e).2.1, ?_⟩⟩
  rcases hB with rfl | ⟨nb, h3, rfl⟩
  · exact (h2 b e).2.2
  · intro e2; injection e2 with e2; have := h1.lt b e; omega
theorem PrO.lens {S : Nat} {H : Hp} {es : List (List Value)} {ps : List Pr} {b3 : Nat} {Bd : Option Nat} (h : PrO S H es ps b3 Bd) : ∀ l ∈ es, l.length = 4 := by
  intro l hl
  obtain ⟨i, hi, rfl⟩ := List.getElem_of_mem hl
  obtain ⟨r, B, h0, _⟩ := h.each i hi (by rw [← h.len]; exact hi)
  rw [h0]; rfl
theorem PrO.prv {S : Nat} {H : Hp} {es : List (List Value)} {ps : List Pr} {b3 : Nat} {Bd : Option Nat} (h : PrO S H es ps b3 Bd) (i : Nat) (hi : i < es.length) (k : i < ps.length) : PrV H es[i] ps[i] := by
  obtain ⟨r, B, h0, h1, _⟩ := h.each i hi k
  exact ⟨r, h0, h1.rd⟩
def OwA (S : Nat) (H : Hp) (v : Value) (E : TypeId) (sz n : Nat) (l : List Value) (b3 : Nat) (Bd : Option Nat) : Prop := ∃ B, Own H v E sz n l B ∧ ∀ b, B = some b → S ≤ b ∧ b ≠ b3 ∧ Bd ≠ some b
theorem OwA.keep {S : Nat} {H H' : Hp} {v : Value} {E : TypeId} {sz n : Nat} {l : List Value} {b3 : Nat} {Bd Bd' : Option Nat} (h : OwA S H v E sz n l b3 Bd) (hk : ∀ b, b < H.size → b ≠ b3 → Bd ≠ some b → H'[b]? = H[b]?) (hB : Bd' = Bd ∨ ∃ nb, H.size ≤ nb ∧ Bd' = some nb) : OwA S H' v E sz n l b3 Bd' := by
  obtain ⟨B, h1, h2⟩ := h
  refine ⟨B, h1.keep fun b e => hk b (h1.lt b e) (h2 b e).2.1 (h2 b e).2.2, fun b e => ⟨(h2 b e).1, (h2 b e).2.1, ?_⟩⟩
  rcases hB with rfl | ⟨nb, h3, rfl⟩
  · exact (h2 b e).2.2
  · intro e2; injection e2 with e2; have := h1.lt b e; omega
/-- A copied grammar: its five slices, each of one's own; the productions' block. -/
structure Cpd (S : Nat) (H : Hp) (v0 v1 v2 v3 v4 : Value) (g : Gm) (ps : List Pr) (b3 : Nat) (Bd : Option Nat) (es : List (List Value)) : Prop where
  o0 : OwA S H v0 9 1 g.nt g.ts b3 Bd
  o1 : OwA S H v1 42 2 g.lev.length (g.lev.map fun x => [iv x.1, iv x.2]).flatten b3 Bd
  o2 : OwA S H v2 110 2 g.pats.length g.pats.flatten b3 Bd
  o3 : OwA S H v3 9 1 g.nn g.ns b3 Bd
  pd : Own H v4 44 4 ps.length es.flatten Bd
  bd : ∀ b, Bd = some b → S ≤ b ∧ b ≠ b3
  pr : PrO S H es ps b3 Bd
theorem Cpd.keep {S : Nat} {H H' : Hp} {v0 v1 v2 v3 v4 : Value} {g : Gm} {ps : List Pr} {b3 : Nat} {Bd : Option Nat} {es : List (List Value)} (h : Cpd S H v0 v1 v2 v3 v4 g ps b3 Bd es) (hk : ∀ b, b < H.size → b ≠ b3 → H'[b]? = H[b]?) : Cpd S H' v0 v1 v2 v3 v4 g ps b3 Bd es :=
  ⟨h.o0.keep (fun b a c _ => hk b a c) (.inl rfl), h.o1.keep (fun b a c _ => hk b a c) (.inl rfl), h.o2.keep (fun b a c _ => hk b a c) (.inl rfl), h.o3.keep (fun b a c _ => hk b a c) (.inl rfl), h.pd.keep fun b e => hk b (h.pd.lt b e) (h.bd b e).2, h.bd, h.pr.keep (fun b a c _ => hk b a c) (.inl rfl)⟩
theorem Cpd.far {S : Nat} {H : Hp} {v0 v1 v2 v3 v4 : Value} {g : Gm} {ps : List Pr} {b3 : Nat} {Bd : Option Nat} {es : List (List Value)} (h : Cpd S H v0 v1 v2 v3 v4 g ps b3 Bd es) {b : Nat} (hb : b < S) (x : Obj) : Cpd S (H.setIfInBounds b x) v0 v1 v2 v3 v4 g ps b3 Bd es := by
  have own : ∀ {v : Value} {E : TypeId} {sz n : Nat} {l : List Value}, OwA S H v E sz n l b3 Bd → OwA S (H.setIfInBounds b x) v E sz n l b3 Bd := by
    intro v E sz n l ho
    obtain ⟨B, h1, h2⟩ := ho
    exact ⟨B, h1.keep fun c e => get_set_ne (by have := (h2 c e).1; omega) _, h2⟩
  refine ⟨own h.o0, own h.o1, own h.o2, own h.o3, h.pd.keep fun c e => get_set_ne (by have := (h.bd c e).1; omega) _, h.bd, h.pr.len, fun i hi k => ?_⟩
  obtain ⟨r, B, h0, h1, h2⟩ := h.pr.each i hi k
  exact ⟨r, B, h0, h1.keep fun c e => get_set_ne (by have := (h2 c e).1; omega) _, h2⟩
/-- One production more, its right side in a new block. -/
theorem Cpd.more {S : Nat} {H H' : Hp} {v0 v1 v2 v3 v4 v4' : Value} {g : Gm} {ps : List Pr} {b3 : Nat} {Bd Bd' : Option Nat} {es : List (List Value)} (h : Cpd S H v0 v1 v2 v3 v4 g ps b3 Bd es) (hSH : S ≤ H.size) (hb3 : b3 < H.size) {p : Pr} {r : Value} {B : Option Nat}
    (hk : ∀ b, b < H.size → b ≠ b3 → Bd ≠ some b → H'[b]? = H[b]?) (hB : Bd' = Bd ∨ ∃ nb, H.size ≤ nb ∧ Bd' = some nb)
    (hr : Own H' r 3 1 p.rhs.length (p.rhs.map iv) B) (hrB : ∀ b, B = some b → S ≤ b ∧ b ≠ b3 ∧ Bd' ≠ some b)
    (hpd : Own H' v4' 44 4 (ps.length + 1) (es.flatten ++ [iv p.left, r, iv p.ln, iv p.lk]) Bd') : Cpd S H' v0 v1 v2 v3 v4' g (ps ++ [p]) b3 Bd' (es ++ [[iv p.left, r, iv p.ln, iv p.lk]]) := by
  have hpr := h.pr.keep hk hB
  refine ⟨h.o0.keep hk hB, h.o1.keep hk hB, h.o2.keep hk hB, h.o3.keep hk hB, by simpa using hpd, ?_, ⟨by simp [h.pr.len], ?_⟩⟩
  · intro b e
    rcases hB with rfl | ⟨nb, h3, rfl⟩
    · exact h.bd b e
    · injection e with e; subst e; omega
  · intro i hi k
    by_cases hlt : i < es.length
    · have hlt2 : i < ps.length := by rw [← h.pr.len]; exact hlt
      obtain ⟨r', B', h0, h1, h2⟩ := hpr.each i hlt hlt2
      simp only [List.getElem_append_left hlt, List.getElem_append_left hlt2]
      exact ⟨r', B', h0, h1, h2⟩
    · have e1 : i = es.length := by simp at hi; omega
      have e2 : i = ps.length := by rw [e1, h.pr.len]
      have q1 : (es ++ [[iv p.left, r, iv p.ln, iv p.lk]])[i] = [iv p.left, r, iv p.ln, iv p.lk] := by simp [e1]
      have q2 : (ps ++ [p])[i] = p := by simp [e2]
      rw [q1, q2]
      exact ⟨r, B, rfl, hr, hrB⟩
/-- What is copied reads as a grammar. -/
theorem Cpd.gv {S : Nat} {H : Hp} {v0 v1 v2 v3 v4 : Value} {g : Gm} {ps : List Pr} {b3 : Nat} {Bd : Option Nat} {es : List (List Value)} (h : Cpd S H v0 v1 v2 v3 v4 g ps b3 Bd es) (hp : ∀ l ∈ g.pats, l.length = 2) (hf : Gm.Fits { g with prods := ps }) : GV H v0 v1 v2 v3 v4 { g with prods := ps } := by
  obtain ⟨B0, o0, -⟩ := h.o0
  obtain ⟨B1, o1, -⟩ := h.o1
  obtain ⟨B2, o2, -⟩ := h.o2
  obtain ⟨B3, o3, -⟩ := h.o3
  have hpd := h.pd
  rw [← h.pr.len] at hpd
  refine ⟨hf, o0.rd, own_rde2 (by simpa using o1) (by intro l hl; obtain ⟨z, _, rfl⟩ := List.mem_map.1 hl; rfl), own_rde2 o2 hp, o3.rd, es, own_rde2 hpd h.pr.lens, h.pr.len, fun i a b => h.pr.prv i a b⟩
set_option maxRecDepth 100000 in
theorem copy_spec (H : Hp) (vt vl vp vn vd : Value) (g : Gm) (hg : GV H vt vl vp vn vd g) (hsh : Shape g) (hlv : g.lev.length = g.nt) (hpt : g.pats.length ≤ 2 ^ 43) :
    CallsV Try.prog 13 [.agg #[vt, vl, vp, vn, vd]].toArray H (fun r H' => Ext H H' ∧ ∃ v0 v1 v2 v3 v4 b3 Bd es, r = .agg #[v0, v1, v2, v3, v4] ∧ Cpd (H.size + 2) H' v0 v1 v2 v3 v4 g g.prods b3 Bd es ∧ b3 < H'.size ∧ (∃ a0 n0 c0 a1 n1 c1 a2 n2 c2 a3 n3 c3 a4 n4 c4, v0 = .slice a0 n0 c0 ∧ v1 = .slice a1 n1 c1 ∧ v2 = .slice a2 n2 c2 ∧ v3 = .slice a3 n3 c3 ∧ v4 = .slice a4 n4 c4)) := by
  have hnt := hsh.nt
  have hnn := hsh.nn
  have hnp := hsh.np
  have hnp1 := hsh.np1
  obtain ⟨bp, op, cap, ra, rb, ro, rc, hvd, hP⟩ := hg.prods hnp1
  have hgx := hg
  obtain ⟨at_, ct, al, cl, ap, cp, an, cn, ad, cd, rfl, rfl, rfl, rfl, hvd'⟩ := hgx.lens
  subst hvd
  clear hvd'
  refine calls_W (m := 42) Try.call13 Try.func13 rfl rfl (by decide +kernel) (by simp) ?_
  first | refine W_regK ?_ | refine W_seq (W_regK ?_)
  intro K hK; simp (maxSteps := 1000000) (disch := omega) only [BOps_nil, BOps_cons, Cont_eq, Bev, ev, updO, wantD, argf, ↓reduceIte, List.map, List.toList_toArray, Value.cells, hz27, zc27, hz27]
  generalize hcs : [Value.slice at_ g.nt ct, Value.slice al g.lev.length cl, Value.slice ap g.pats.length cp, Value.slice an g.nn cn, Value.slice (some ⟨bp, op, none⟩) g.prods.length cap] = cs
  have hE1 := (Ext.refl H).push (row 27 cs)
  have hb1 := get_new H (row 27 cs)
  have hs1 : (H.push (row 27 cs)).size = H.size + 1 := by simp
  generalize hk0 : H.size = b1 at hb1 hs1 ⊢
  generalize H.push (row 27 cs) = H1 at *
  have hE2 := hE1.push (row 27 [.slice none 0 0, .slice none 0 0, .slice none 0 0, .slice none 0 0, .slice none 0 0])
  have hb2 := get_new H1 (row 27 [.slice none 0 0, .slice none 0 0, .slice none 0 0, .slice none 0 0, .slice none 0 0])
  have hb1' := ((Ext.refl H1).push (row 27 [.slice none 0 0, .slice none 0 0, .slice none 0 0, .slice none 0 0, .slice none 0 0])).get hb1
  have hs2 : (H1.push (row 27 [.slice none 0 0, .slice none 0 0, .slice none 0 0, .slice none 0 0, .slice none 0 0])).size = b1 + 2 := by simp [hs1]
  rw [hs1] at hb2 ⊢
  generalize H1.push (row 27 [.slice none 0 0, .slice none 0 0, .slice none 0 0, .slice none 0 0, .slice none 0 0]) = H2 at *
  refine hK _ _ ?_; clear hK K
  have rdc : ∀ H' : Hp, H'[b1]? = some (row 27 cs) → ldc H' ⟨b1, 0, none⟩ = some (Value.slice at_ g.nt ct) ∧ ldc H' ⟨b1, 1, none⟩ = some (Value.slice al g.lev.length cl) ∧ ldc H' ⟨b1, 2, none⟩ = some (Value.slice ap g.pats.length cp) ∧ ldc H' ⟨b1, 3, none⟩ = some (Value.slice an g.nn cn) ∧ ldc H' ⟨b1, 4, none⟩ = some (Value.slice (some ⟨bp, op, none⟩) g.prods.length cap) := by
    intro H' h
    refine ⟨?_, ?_, ?_, ?_, ?_⟩ <;> (rw [ldc_row h, ← hcs]; rfl)
  refine W_parK 14 100 Ext (PhiC g (b1 + 2) b1 (.slice at_ g.nt ct) (.slice al g.lev.length cl) (.slice ap g.pats.length cp) (.slice an g.nn cn)) mixed (by decide +kernel) .base ?_ ?_ ?_
  · intro i v lo hi Hx Hy hx hp
    have hx : Ext Hx Hy := by split at hx <;> exact hx
    exact PhiC_st _ _ _ _ _ _ _ i v lo hi Hx Hy hx hp
  · simp only [ParSteps, List.take_succ_cons, List.take_zero]
    refine ⟨?_, ?_, ?_, ?_, ?_, ?_, ?_, ?_, ?_, ?_, ?_, ?_, ?_, ?_, trivial⟩
    · intro f1 Hy hx hout hdep; simp [depsOf, Region.binds, DepFacts] at hdep
      have e1 : f1 1 = .pointer (some ⟨b1, 0, none⟩) := by rw [hout 1 (by decide +kernel)]; simp [upd]
      simp (maxSteps := 1000000) (disch := omega) only [wantB, Bev, rd, ev, optK_some, ↓reduceIte, reduceCtorEq, and_true, Nat.add_zero, fld27_0, e1, PhiC]
      exact .refl _
    · intro f1 Hy hx hout hdep; simp [depsOf, Region.binds, DepFacts, factAt, dstAt, PhiC] at hdep
      have hx : Ext H2 Hy := hx
      obtain ⟨l0, l1, l2, l3, l4⟩ := rdc Hy (hx.get hb1')
      simp (maxSteps := 1000000) (disch := omega) only [wantB, Bev, rd, ev, optK_some, Nat.reduceEqDiff, ↓reduceIte, and_true, Nat.zero_add, ld22, hdep, PhiC, l0]
      exact .refl _
    · intro f1 Hy hx hout hdep; simp [depsOf, Region.binds, DepFacts, factAt, dstAt, PhiC] at hdep
      have hx : Ext H2 Hy := hx
      have hxs := hx.size
      have hr := (hg.ext (hE2.trans hx)).t
      simp (maxSteps := 1000000) (disch := omega) only [wantB, Bev, ev, Nat.reduceEqDiff, ↓reduceIte, List.map, Nat.reduceAdd, Nat.zero_add, u22, hdep, PhiC]
      refine appK_nil (S := b1 + 2) slT22 (rd_cells hr) (by simp) hg.fits.t1 hz9 (by rw [zc9]; rfl) (by have : g.ts.length = g.nt := rfl; omega) (by have : g.ts.length = g.nt := rfl; omega) (by omega) ?_
      intro v' H' e ho
      exact ⟨e, ho⟩
    · intro f1 Hy hx hout hdep; simp [depsOf, Region.binds, DepFacts] at hdep
      have e1 : f1 1 = .pointer (some ⟨b1, 0, none⟩) := by rw [hout 1 (by decide +kernel)]; simp [upd]
      simp (maxSteps := 1000000) (disch := omega) only [wantB, Bev, rd, ev, optK_some, Nat.reduceEqDiff, ↓reduceIte, and_true, Nat.reduceAdd, Nat.zero_add, fld27_1, e1, PhiC]
      exact .refl _
    · intro f1 Hy hx hout hdep; simp [depsOf, Region.binds, DepFacts, factAt, dstAt, PhiC] at hdep
      have hx : Ext H2 Hy := hx
      obtain ⟨l0, l1, l2, l3, l4⟩ := rdc Hy (hx.get hb1')
      simp (maxSteps := 1000000) (disch := omega) only [wantB, Bev, rd, ev, optK_some, Nat.reduceEqDiff, ↓reduceIte, and_true, Nat.reduceAdd, Nat.zero_add, ld23, hdep, PhiC, l1]
      exact .refl _
    · intro f1 Hy hx hout hdep; simp [depsOf, Region.binds, DepFacts, factAt, dstAt, PhiC] at hdep
      have hx : Ext H2 Hy := hx
      have hxs := hx.size
      obtain ⟨ys, hr, hys⟩ := (hg.ext (hE2.trans hx)).l.cells
      subst hys
      simp only [List.length_map] at hr
      simp (maxSteps := 1000000) (disch := omega) only [wantB, Bev, ev, Nat.reduceEqDiff, ↓reduceIte, List.map, Nat.reduceAdd, Nat.zero_add, u23, hdep.1, PhiC]
      refine appK_nil (S := b1 + 2) slT23 hr ((flat_length (sz := 2) _ (by intro l hl; obtain ⟨z, _, rfl⟩ := List.mem_map.1 hl; rfl)).trans (by simp)) ?_ hz42 (by rw [zc42]; rfl) (by omega) (by omega) (by omega) ?_
      · intro y hy
        obtain ⟨l, hl, hy⟩ := List.mem_flatten.1 hy
        obtain ⟨z, _, rfl⟩ := List.mem_map.1 hl
        simp at hy
        rcases hy with rfl | rfl <;> rfl
      intro v' H' e ho
      exact ⟨e, by simpa using ho⟩
    · intro f1 Hy hx hout hdep; simp [depsOf, Region.binds, DepFacts] at hdep
      have e1 : f1 1 = .pointer (some ⟨b1, 0, none⟩) := by rw [hout 1 (by decide +kernel)]; simp [upd]
      simp (maxSteps := 1000000) (disch := omega) only [wantB, Bev, rd, ev, optK_some, Nat.reduceEqDiff, ↓reduceIte, and_true, Nat.reduceAdd, Nat.zero_add, fld27_2, e1, PhiC]
      exact .refl _
    · intro f1 Hy hx hout hdep; simp [depsOf, Region.binds, DepFacts, factAt, dstAt, PhiC] at hdep
      have hx : Ext H2 Hy := hx
      obtain ⟨l0, l1, l2, l3, l4⟩ := rdc Hy (hx.get hb1')
      simp (maxSteps := 1000000) (disch := omega) only [wantB, Bev, rd, ev, optK_some, Nat.reduceEqDiff, ↓reduceIte, and_true, Nat.reduceAdd, Nat.zero_add, ld24, hdep, PhiC, l2]
      exact .refl _
    · intro f1 Hy hx hout hdep; simp [depsOf, Region.binds, DepFacts, factAt, dstAt, PhiC] at hdep
      have hx : Ext H2 Hy := hx
      have hxs := hx.size
      have hgp := (hg.ext (hE2.trans hx)).p
      obtain ⟨ys, hr, hys⟩ := hgp.cells
      subst hys
      simp (maxSteps := 1000000) (disch := omega) only [wantB, Bev, ev, Nat.reduceEqDiff, ↓reduceIte, List.map, Nat.reduceAdd, Nat.zero_add, u24, hdep.1, PhiC]
      refine appK_nil (S := b1 + 2) slT24 hr (flat_length _ (fun l hl => by obtain ⟨i, hi, rfl⟩ := List.getElem_of_mem hl; exact hgp.len i hi)) hg.fits.p1 hz110 (by rw [zc110]; rfl) (by omega) (by omega) (by omega) ?_
      intro v' H' e ho
      exact ⟨e, ho⟩
    · intro f1 Hy hx hout hdep; simp [depsOf, Region.binds, DepFacts] at hdep
      have e1 : f1 1 = .pointer (some ⟨b1, 0, none⟩) := by rw [hout 1 (by decide +kernel)]; simp [upd]
      simp (maxSteps := 1000000) (disch := omega) only [wantB, Bev, rd, ev, optK_some, Nat.reduceEqDiff, ↓reduceIte, and_true, Nat.reduceAdd, Nat.zero_add, fld27_3, e1, PhiC]
      exact .refl _
    · intro f1 Hy hx hout hdep; simp [depsOf, Region.binds, DepFacts, factAt, dstAt, PhiC] at hdep
      have hx : Ext H2 Hy := hx
      obtain ⟨l0, l1, l2, l3, l4⟩ := rdc Hy (hx.get hb1')
      simp (maxSteps := 1000000) (disch := omega) only [wantB, Bev, rd, ev, optK_some, Nat.reduceEqDiff, ↓reduceIte, and_true, Nat.reduceAdd, Nat.zero_add, ld22, hdep, PhiC, l3]
      exact .refl _
    · intro f1 Hy hx hout hdep; simp [depsOf, Region.binds, DepFacts, factAt, dstAt, PhiC] at hdep
      have hx : Ext H2 Hy := hx
      have hxs := hx.size
      have hr := (hg.ext (hE2.trans hx)).n
      simp (maxSteps := 1000000) (disch := omega) only [wantB, Bev, ev, Nat.reduceEqDiff, ↓reduceIte, List.map, Nat.reduceAdd, Nat.zero_add, u22, hdep.1, PhiC]
      refine appK_nil (S := b1 + 2) slT22 (rd_cells hr) (by simp) hg.fits.n1 hz9 (by rw [zc9]; rfl) (by have : g.ns.length = g.nn := rfl; omega) (by have : g.ns.length = g.nn := rfl; omega) (by omega) ?_
      intro v' H' e ho
      exact ⟨e, ho⟩
    · intro f1 Hy hx hout hdep; simp [depsOf, Region.binds, DepFacts, factAt, dstAt, PhiC] at hdep
      obtain ⟨h0, h1, h2, h3⟩ := hdep
      obtain ⟨a0, c0, e0⟩ := h0.sl; obtain ⟨a1, c1, e1⟩ := h1.sl; obtain ⟨a2, c2, e2⟩ := h2.sl; obtain ⟨a3, c3, e3⟩ := h3.sl
      simp (maxSteps := 1000000) (disch := omega) only [wantB, Bev, ev, optK_some, Nat.reduceEqDiff, ↓reduceIte, List.map, Nat.reduceAdd, Nat.zero_add, PhiC, e0, e1, e2, e3, bld27s]
      rw [e0] at h0; rw [e1] at h1; rw [e2] at h2; rw [e3] at h3
      exact ⟨.refl _, a0, c0, a1, c1, a2, c2, a3, c3, rfl, h0, h1, h2, h3⟩
    · intro f1 Hy hx hout hdep; simp [depsOf, Region.binds, DepFacts] at hdep
      have hx : Ext H2 Hy := hx
      simp (maxSteps := 1000000) (disch := omega) only [wantB, Bev, Nat.reduceEqDiff, ↓reduceIte, Nat.reduceAdd, Nat.zero_add, hz27, zc27, PhiC, hz27]
      exact ⟨(Ext.refl _).push _, Hy.size, by have := hx.size; omega, rfl, get_new _ _⟩
  intro K hK fz H3 lo hi hxx hout hff hdis
  have hf12 := (hff 12 (by omega)).1
  have hf13 := (hff 13 (by omega)).1
  simp [factAt, dstAt, PhiC] at hf12 hf13
  have hxx : Ext H2 H3 := hxx
  obtain ⟨a0, c0, a1, c1, a2, c2, a3, c3, e18, w0, w1, w2, w3⟩ := hf12
  obtain ⟨b3, hb3, e3, hb3c⟩ := hf13
  have e1 : fz 1 = .pointer (some ⟨b1, 0, none⟩) := by rw [hout 1 (by decide +kernel)]; simp [upd]
  have e2 : fz 2 = .pointer (some ⟨b1 + 1, 0, none⟩) := by rw [hout 2 (by decide +kernel)]; simp [upd]
  have hst : stn H3 ⟨b3, 0, none⟩ [.slice a0 g.nt c0, .slice a1 g.lev.length c1, .slice a2 g.pats.length c2, .slice a3 g.nn c3, .slice none 0 0] = some (H3.setIfInBounds b3 (row 27 [.slice a0 g.nt c0, .slice a1 g.lev.length c1, .slice a2 g.pats.length c2, .slice a3 g.nn c3, .slice none 0 0])) := by
    rw [stn_row hb3c (by simp) rfl]; rfl
  simp only [List.drop_succ_cons, List.drop_zero]
  try simp (maxSteps := 1000000) (disch := omega) only [optH_some, BOps_nil, BOps_cons, Cont_eq, Bev, ev, updO, wantD, optH_some, ↓reduceIte, List.map, List.toList_toArray, Value.cells, List.size_toArray, List.length_cons, List.length_nil, Nat.reduceAdd, Nat.zero_add, st27, e18, e3, hst]
  have hE3 := hE2.trans hxx
  have hb13 := hxx.get hb1'
  have hb23 := hxx.get hb2
  have tr : ∀ {v : Value} {E : TypeId} {sz n : Nat} {l : List Value}, OwS (b1 + 2) H3 v E sz n l → 27 ≠ E → OwA (b1 + 2) (H3.setIfInBounds b3 (row 27 [.slice a0 g.nt c0, .slice a1 g.lev.length c1, .slice a2 g.pats.length c2, .slice a3 g.nn c3, .slice none 0 0])) v E sz n l b3 none := by
    intro v E sz n l h hE
    obtain ⟨B, h1, h2⟩ := h
    refine ⟨B, h1.keep fun b e => get_set_ne (fun e2 => own_ne h1 e hb3c (fun e3 => hE e3.symm) e2.symm) _, fun b e => ⟨h2 b e, own_ne h1 e hb3c (fun e3 => hE e3.symm), by simp⟩⟩
  have hcp : Cpd (b1 + 2) (H3.setIfInBounds b3 (row 27 [.slice a0 g.nt c0, .slice a1 g.lev.length c1, .slice a2 g.pats.length c2, .slice a3 g.nn c3, .slice none 0 0])) (.slice a0 g.nt c0) (.slice a1 g.lev.length c1) (.slice a2 g.pats.length c2) (.slice a3 g.nn c3) (.slice none 0 0) g [] b3 none [] :=
    ⟨tr w0 (by decide), tr w1 (by decide), tr w2 (by decide), tr w3 (by decide), Own.nil _ _ _, by simp, ⟨rfl, by simp⟩⟩
  have hE4 := hE3.set (by omega : H.size ≤ b3) (row 27 [.slice a0 g.nt c0, .slice a1 g.lev.length c1, .slice a2 g.pats.length c2, .slice a3 g.nn c3, .slice none 0 0])
  have hb14 := (get_set_ne (by omega : b3 ≠ b1) (row 27 [.slice a0 g.nt c0, .slice a1 g.lev.length c1, .slice a2 g.pats.length c2, .slice a3 g.nn c3, .slice none 0 0])).trans hb13
  have hb24 := (get_set_ne (by omega : b3 ≠ b1 + 1) (row 27 [.slice a0 g.nt c0, .slice a1 g.lev.length c1, .slice a2 g.pats.length c2, .slice a3 g.nn c3, .slice none 0 0])).trans hb23
  have hb34 := get_set (lt_of_get hb3c) (row 27 [.slice a0 g.nt c0, .slice a1 g.lev.length c1, .slice a2 g.pats.length c2, .slice a3 g.nn c3, .slice none 0 0])
  clear tr w0 w1 w2 w3 hst hb3c hb13 hb23 hE3 hE2 hb1' hb2
  generalize H3.setIfInBounds b3 _ = H4 at *
  refine hK _ _ ?_; clear hK K
  first | refine W_regK ?_ | refine W_seq (W_regK ?_)
  intro K hK; simp (maxSteps := 1000000) (disch := omega) only [BOps_nil, BOps_cons, Cont_eq, Bev, rd, ev, updO, wantD, optK_some, ↓reduceIte, List.map]
  refine hK _ _ ?_; clear hK K
  first | refine W_seq (W_block (W_loop (fun z f H' => ∃ (i : Nat) (a4 : Option Addr) (n4 c4 : Nat) (Bd : Option Nat) (es : List (List Value)), i ≤ g.prods.length ∧ z = g.prods.length - i ∧ f 1 = .pointer (some ⟨b1, 0, none⟩) ∧ f 2 = .pointer (some ⟨b1 + 1, 0, none⟩) ∧ f 3 = .pointer (some ⟨b3, 0, none⟩) ∧ f 4 = .int .i64 i ∧ Ext H H' ∧ H'[b1]? = some (row 27 cs) ∧ H'[b1 + 1]? = some (row 27 [.slice none 0 0, .slice none 0 0, .slice none 0 0, .slice none 0 0, .slice none 0 0]) ∧ H'[b3]? = some (row 27 [.slice a0 g.nt c0, .slice a1 g.lev.length c1, .slice a2 g.pats.length c2, .slice a3 g.nn c3, .slice a4 n4 c4]) ∧ Cpd (b1 + 2) H' (.slice a0 g.nt c0) (.slice a1 g.lev.length c1) (.slice a2 g.pats.length c2) (.slice a3 g.nn c3) (.slice a4 n4 c4) g (g.prods.take i) b3 Bd es) g.prods.length ?_ ?_)) | refine W_block (W_loop (fun z f H' => ∃ (i : Nat) (a4 : Option Addr) (n4 c4 : Nat) (Bd : Option Nat) (es : List (List Value)), i ≤ g.prods.length ∧ z = g.prods.length - i ∧ f 1 = .pointer (some ⟨b1, 0, none⟩) ∧ f 2 = .pointer (some ⟨b1 + 1, 0, none⟩) ∧ f 3 = .pointer (some ⟨b3, 0, none⟩) ∧ f 4 = .int .i64 i ∧ Ext H H' ∧ H'[b1]? = some (row 27 cs) ∧ H'[b1 + 1]? = some (row 27 [.slice none 0 0, .slice none 0 0, .slice none 0 0, .slice none 0 0, .slice none 0 0]) ∧ H'[b3]? = some (row 27 [.slice a0 g.nt c0, .slice a1 g.lev.length c1, .slice a2 g.pats.length c2, .slice a3 g.nn c3, .slice a4 n4 c4]) ∧ Cpd (b1 + 2) H' (.slice a0 g.nt c0) (.slice a1 g.lev.length c1) (.slice a2 g.pats.length c2) (.slice a3 g.nn c3) (.slice a4 n4 c4) g (g.prods.take i) b3 Bd es) g.prods.length ?_ ?_)
  · exact ⟨0, none, 0, 0, none, [], by omega, by omega, by simp [upd, e1], by simp [upd, e2], by simp [upd, e3], by simp [upd], hE4, hb14, hb24, hb34, hcp⟩
  clear hE4 hb14 hb24 hb34 hcp H4 e18 hff hout hdis
  rintro z f H3 ⟨i, a4, n4, c4, Bd, es, hi, rfl, g1, g2, g3, g4, hE3, hb13, hb23, hb33, hcp⟩
  obtain ⟨l0, l1, l2, l3, l4⟩ := rdc H3 hb13
  by_cases cc : (i : Int) < g.prods.length
  rotate_left
  · have cc' : decide ((i : Int) < g.prods.length) = false := by simpa using cc
    first | refine W_regK ?_ | refine W_seq (W_regK ?_)
    intro K hK; simp (maxSteps := 1000000) (disch := omega) only [BOps_nil, BOps_cons, Cont_eq, Bev, rd, rdB, ev, updO, upd, wantD, bin, optK_some, lenV, Nat.reduceEqDiff, ↓reduceIte, List.map, ne_eq, not_true_eq_false, Nat.zero_add, u25, ld25, fld27_4, g1, g4, l4, cc']
    refine hK _ _ ?_; clear hK K
    first | refine W_seq (W_cond_f (by simp only [ev]) ?_) | refine W_cond_f (by simp only [ev, upd, ↓reduceIte]) ?_
    refine W_exit ?_; simp only [thenQ, blockQ, ↓reduceIte]
    have hge : i = g.prods.length := by omega
    subst hge
    rw [List.take_length] at hcp
    have lo : ldn H3 5 ⟨b3, 0, none⟩ = some [Value.slice a0 g.nt c0, .slice a1 g.lev.length c1, .slice a2 g.pats.length c2, .slice a3 g.nn c3, .slice a4 n4 c4] := by rw [ldn_row hb33]; rfl
    have hst : stn H3 ⟨b1 + 1, 0, none⟩ [.slice a0 g.nt c0, .slice a1 g.lev.length c1, .slice a2 g.pats.length c2, .slice a3 g.nn c3, .slice a4 n4 c4] = some (H3.setIfInBounds (b1 + 1) (row 27 [.slice a0 g.nt c0, .slice a1 g.lev.length c1, .slice a2 g.pats.length c2, .slice a3 g.nn c3, .slice a4 n4 c4])) := by
      rw [stn_row hb23 (by simp) rfl]; rfl
    first | refine W_regK ?_ | refine W_seq (W_regK ?_)
    intro K hK; simp (maxSteps := 1000000) (disch := omega) only [optH_some, BOps_nil, BOps_cons, Cont_eq, Bev, rd, ev, updO, upd, wantD, optK_some, optH_some, Nat.reduceEqDiff, ↓reduceIte, List.map, List.toList_toArray, Value.cells, Option.map_some, List.size_toArray, List.length_cons, List.length_nil, Nat.reduceAdd, Nat.zero_add, ld27, st27, g2, g3, lo, hst]
    have hb4 := get_set (lt_of_get hb23) (row 27 [.slice a0 g.nt c0, .slice a1 g.lev.length c1, .slice a2 g.pats.length c2, .slice a3 g.nn c3, .slice a4 n4 c4])
    have hE4 := hE3.set (by omega : H.size ≤ b1 + 1) (row 27 [.slice a0 g.nt c0, .slice a1 g.lev.length c1, .slice a2 g.pats.length c2, .slice a3 g.nn c3, .slice a4 n4 c4])
    have hcp4 : Cpd (b1 + 2) (H3.setIfInBounds (b1 + 1) (row 27 [.slice a0 g.nt c0, .slice a1 g.lev.length c1, .slice a2 g.pats.length c2, .slice a3 g.nn c3, .slice a4 n4 c4])) (.slice a0 g.nt c0) (.slice a1 g.lev.length c1) (.slice a2 g.pats.length c2) (.slice a3 g.nn c3) (.slice a4 n4 c4) g g.prods b3 Bd es := hcp.far (by omega) _
    have hb3l := lt_of_get hb33
    have hs4 : (H3.setIfInBounds (b1 + 1) (row 27 [.slice a0 g.nt c0, .slice a1 g.lev.length c1, .slice a2 g.pats.length c2, .slice a3 g.nn c3, .slice a4 n4 c4])).size = H3.size := by simp
    generalize H3.setIfInBounds (b1 + 1) _ = H4 at *
    refine hK _ _ ?_; clear hK K
    have hl : ld Try.prog H4 27 ⟨b1 + 1, 0, none⟩ = some (.agg #[.slice a0 g.nt c0, .slice a1 g.lev.length c1, .slice a2 g.pats.length c2, .slice a3 g.nn c3, .slice a4 n4 c4]) := by
      rw [ld27, ldn_row hb4]; rfl
    refine W_ret ?_; simp only [retQ, Try.results13, List.toList_toArray]
    rw [resVc (by simp [upd, g2]) hl]
    exact ⟨_, rfl, hE4, _, _, _, _, _, b3, Bd, es, rfl, by rw [hk0]; exact hcp4, by omega, _, _, _, _, _, _, _, _, _, _, _, _, _, _, _, rfl, rfl, rfl, rfl, rfl⟩
  have cc' : decide ((i : Int) < g.prods.length) = true := by simpa using cc
  have hil : i < g.prods.length := by omega
  have hP3 := hP.ext hE3
  have hall := hP3.all i (by omega) (by omega)
  rw [Int.toNat_natCast] at hall
  have hrl := hsh.rl _ (gp_mem (g := g) (j := i) (by omega) (by omega))
  first | refine W_regK ?_ | refine W_seq (W_regK ?_)
  intro K hK; simp (maxSteps := 1000000) (disch := omega) only [BOps_nil, BOps_cons, Cont_eq, Bev, rd, rdB, ev, updO, upd, wantD, bin, optK_some, lenV, Nat.reduceEqDiff, ↓reduceIte, List.map, ne_eq, not_true_eq_false, Nat.zero_add, u25, ld25, fld27_4, g1, g4, l4, cc']
  refine hK _ _ ?_; clear hK K
  first | refine W_seq (W_cond_t (by simp only [ev]) ?_) | refine W_cond_t (by simp only [ev, upd, ↓reduceIte]) ?_
  refine W_skip ?_; try simp only [thenQ]
  first | refine W_seq (W_block ?_) | refine W_block ?_
  first | refine W_regK ?_ | refine W_seq (W_regK ?_)
  intro K hK; simp (maxSteps := 1000000) (disch := omega) only [stn_new_isii, optH_some, BOps_nil, BOps_cons, Cont_eq, Bev, rd, ev, updO, upd, wantD, optK_some, optH_some, Nat.reduceEqDiff, ↓reduceIte, List.map, List.toList_toArray, inI_pos, Value.cells, Option.map_some, List.size_toArray, List.length_cons, List.length_nil, Nat.reduceAdd, Nat.zero_add, ld25, ixk25, fld27_4, hz44, ld44, st44, zc44, g1, g4, l4, Int.toNat_natCast, hall]
  have hEq := (Ext.refl H3).push (row 44 [.int .i64 (gp g i).left, .slice (ra i) (gp g i).rhs.length (rc i), .int .i64 (gp g i).ln, .int .i64 (gp g i).lk])
  have hq := get_new H3 (row 44 [.int .i64 (gp g i).left, .slice (ra i) (gp g i).rhs.length (rc i), .int .i64 (gp g i).ln, .int .i64 (gp g i).lk])
  have hE4 := hE3.trans hEq
  have hb14 := hEq.get hb13
  have hb24 := hEq.get hb23
  have hb34 := hEq.get hb33
  have hcp4 := hcp.keep (H' := H3.push (row 44 [.int .i64 (gp g i).left, .slice (ra i) (gp g i).rhs.length (rc i), .int .i64 (gp g i).ln, .int .i64 (gp g i).lk])) (fun b hb _ => hEq.blk b hb)
  have hpb : b1 + 2 ≤ H3.size := by have := lt_of_get hb23; omega
  have hpb3 : H3.size ≠ b3 := by have := lt_of_get hb33; omega
  have hpbd : Bd ≠ some H3.size := fun e => by have := hcp.pd.lt _ e; omega
  have hpr : RdI H3 (.slice (ra i) (gp g i).rhs.length (rc i)) (gp g i).rhs := hP3.rd i (by omega) (by omega)
  have hpr4 := RdI.ext hEq hpr
  generalize hk1 : H3.size = pb at *
  generalize H3.push _ = H4 at *
  refine hK _ _ ?_; clear hK K
  have q1 : ldc H4 ⟨pb, 1, none⟩ = some (.slice (ra i) (gp g i).rhs.length (rc i)) := ldc_row hq 1
  first | refine W_regK ?_ | refine W_seq (W_regK ?_)
  intro K hK; simp (maxSteps := 1000000) (disch := omega) only [BOps_cons, Cont_eq, Bev, rd, ev, updO, upd, wantD, optK_some, ↓reduceIte, List.map, Nat.zero_add, u28, ld28, fld44_1, q1]
  have hc5 := rd_cells hpr4
  rw [List.length_map] at hc5
  refine appK_nil (S := H4.size) slT28 hc5 (by simp) (by intro y hy; obtain ⟨k, _, rfl⟩ := List.mem_map.1 hy; rfl) hz3 rfl (by omega) (by omega) (Nat.le_refl _) ?_
  intro vr H5 hE45 hor
  obtain ⟨ar, cr, rfl⟩ := hor.sl
  obtain ⟨Br, hor1, hor2⟩ := hor
  have hq5 := hE45.get hq
  have hst : stn H5 ⟨pb, 1, none⟩ [.slice ar (gp g i).rhs.length cr] = some (H5.setIfInBounds pb (row 44 [.int .i64 (gp g i).left, .slice ar (gp g i).rhs.length cr, .int .i64 (gp g i).ln, .int .i64 (gp g i).lk])) := by
    rw [stn_row hq5 (by simp) rfl]; rfl
  try simp (maxSteps := 1000000) (disch := omega) only [optH_some, BOps_nil, BOps_cons, Cont_eq, Bev, rd, ev, updO, upd, wantD, optK_some, optH_some, Nat.reduceEqDiff, ↓reduceIte, List.toList_toArray, Value.cells, List.size_toArray, List.length_cons, List.length_nil, Nat.zero_add, st28, fld44_1, hst]
  have hpb4 : pb < H4.size := lt_of_get hq
  have hE5 := (hE4.trans hE45).set (by omega : H.size ≤ pb) (row 44 [.int .i64 (gp g i).left, .slice ar (gp g i).rhs.length cr, .int .i64 (gp g i).ln, .int .i64 (gp g i).lk])
  have hq6 := get_set (lt_of_get hq5) (row 44 [.int .i64 (gp g i).left, .slice ar (gp g i).rhs.length cr, .int .i64 (gp g i).ln, .int .i64 (gp g i).lk])
  have hb16 := (get_set_ne (by omega : pb ≠ b1) (row 44 [.int .i64 (gp g i).left, .slice ar (gp g i).rhs.length cr, .int .i64 (gp g i).ln, .int .i64 (gp g i).lk])).trans (hE45.get hb14)
  have hb26 := (get_set_ne (by omega : pb ≠ b1 + 1) (row 44 [.int .i64 (gp g i).left, .slice ar (gp g i).rhs.length cr, .int .i64 (gp g i).ln, .int .i64 (gp g i).lk])).trans (hE45.get hb24)
  have hb36 := (get_set_ne hpb3 (row 44 [.int .i64 (gp g i).left, .slice ar (gp g i).rhs.length cr, .int .i64 (gp g i).ln, .int .i64 (gp g i).lk])).trans (hE45.get hb34)
  have hor6 := hor1.keep (H' := H5.setIfInBounds pb (row 44 [.int .i64 (gp g i).left, .slice ar (gp g i).rhs.length cr, .int .i64 (gp g i).ln, .int .i64 (gp g i).lk])) fun b e => get_set_ne (by have := hor2 b e; omega) _
  have hkp6 : ∀ b, b < H3.size → (H5.setIfInBounds pb (row 44 [.int .i64 (gp g i).left, .slice ar (gp g i).rhs.length cr, .int .i64 (gp g i).ln, .int .i64 (gp g i).lk]))[b]? = H3[b]? := fun b hb => by
    rw [get_set_ne (by omega), hE45.blk b (by have := hEq.size; omega), hEq.blk b hb]
  have hs6 : (H5.setIfInBounds pb (row 44 [.int .i64 (gp g i).left, .slice ar (gp g i).rhs.length cr, .int .i64 (gp g i).ln, .int .i64 (gp g i).lk])).size = H5.size := by simp
  have hs45 := hE45.size
  generalize H5.setIfInBounds pb _ = H6 at *
  refine hK _ _ ?_; clear hK K
  have lq : ldn H6 4 ⟨pb, 0, none⟩ = some [.int .i64 (gp g i).left, .slice ar (gp g i).rhs.length cr, .int .i64 (gp g i).ln, .int .i64 (gp g i).lk] := by rw [ldn_row hq6]; rfl
  have l34 : ldc H6 ⟨b3, 4, none⟩ = some (.slice a4 n4 c4) := ldc_row hb36 4
  refine W_reg ?_; simp (maxSteps := 1000000) (disch := omega) only [BOps_cons, Cont_eq, Bev, rd, ev, updO, upd, wantD, optK_some, Nat.reduceEqDiff, ↓reduceIte, List.map, Option.map_some, Nat.zero_add, u25, ld25, fld27_4, ld44, g3, l34, lq, bsl25_1]
  have hE7 := (Ext.refl H6).push (row 44 [.int .i64 (gp g i).left, .slice ar (gp g i).rhs.length cr, .int .i64 (gp g i).ln, .int .i64 (gp g i).lk])
  have hn7 := get_new H6 (row 44 [.int .i64 (gp g i).left, .slice ar (gp g i).rhs.length cr, .int .i64 (gp g i).ln, .int .i64 (gp g i).lk])
  have hcell : cellsOfSl (H6.push (row 44 [.int .i64 (gp g i).left, .slice ar (gp g i).rhs.length cr, .int .i64 (gp g i).ln, .int .i64 (gp g i).lk])) 4 (.slice (some ⟨H6.size, 0, none⟩) 1 1) = some (1, [.int .i64 (gp g i).left, .slice ar (gp g i).rhs.length cr, .int .i64 (gp g i).ln, .int .i64 (gp g i).lk]) := by
    simp [cellsOfSl, row]
  have hpd7 : Own (H6.push (row 44 [.int .i64 (gp g i).left, .slice ar (gp g i).rhs.length cr, .int .i64 (gp g i).ln, .int .i64 (gp g i).lk])) (.slice a4 n4 c4) 44 4 (g.prods.take i).length es.flatten Bd := hcp.pd.keep fun b e => by
    have hb := hcp.pd.lt b e
    rw [hE7.blk b (by have := hEq.size; omega), hkp6 b hb]
  have hor7 := hor6.keep (H' := H6.push (row 44 [.int .i64 (gp g i).left, .slice ar (gp g i).rhs.length cr, .int .i64 (gp g i).ln, .int .i64 (gp g i).lk])) fun b e => hE7.blk b (hor6.lt b e)
  have hs7 : (H6.push (row 44 [.int .i64 (gp g i).left, .slice ar (gp g i).rhs.length cr, .int .i64 (gp g i).ln, .int .i64 (gp g i).lk])).size = H6.size + 1 := by simp
  have htl : (g.prods.take i).length = i := by simp; omega
  generalize H6.push _ = H7 at *
  refine appK_own slT25 hpd7 hcell rfl ?_ hz44 (by rw [zc44]; rfl) (by omega) (by omega) ?_
  · intro y hy; simp at hy; rcases hy with rfl | rfl | rfl | rfl <;> rfl
  intro v4' H8 Bd' hpd8 hf8 hBd8
  obtain ⟨a4', n4', c4', e4⟩ : ∃ a n c, v4' = .slice a n c := by
    obtain ⟨_, ⟨_, e, _⟩ | ⟨k, cap, sp, _, e, _⟩⟩ := hpd8
    · exact ⟨_, _, _, e⟩
    · exact ⟨_, _, _, e⟩
  subst e4
  have hbdb3 : ∀ b, Bd = some b → b ≠ b3 := fun b e => (hcp.bd b e).2
  have hb38 := hf8.get (hE7.get hb36) (fun e => hbdb3 b3 e rfl)
  have hst8 : stn H8 ⟨b3, 4, none⟩ [.slice a4' n4' c4'] = some (H8.setIfInBounds b3 (row 27 [.slice a0 g.nt c0, .slice a1 g.lev.length c1, .slice a2 g.pats.length c2, .slice a3 g.nn c3, .slice a4' n4' c4'])) := by
    rw [stn_row hb38 (by simp) rfl]; rfl
  try simp (maxSteps := 1000000) (disch := omega) only [optH_some, BOps_nil, BOps_cons, Cont_eq, Bev, rd, ev, updO, upd, wantD, optK_some, optH_some, Nat.reduceEqDiff, ↓reduceIte, List.toList_toArray, Value.cells, List.size_toArray, List.length_cons, List.length_nil, Nat.zero_add, st25, fld27_4, g3, hst8]
  have hbS : ∀ b, Bd = some b → b1 + 2 ≤ b := fun b e => (hcp.bd b e).1
  have hE8 := (Ext.frm (hE5.trans hE7) hf8 (fun b e => by have := hbS b e; omega)).set (by omega : H.size ≤ b3) (row 27 [.slice a0 g.nt c0, .slice a1 g.lev.length c1, .slice a2 g.pats.length c2, .slice a3 g.nn c3, .slice a4' n4' c4'])
  have hb18 := (get_set_ne (by omega : b3 ≠ b1) (row 27 [.slice a0 g.nt c0, .slice a1 g.lev.length c1, .slice a2 g.pats.length c2, .slice a3 g.nn c3, .slice a4' n4' c4'])).trans (hf8.get (hE7.get hb16) (fun e => by have := hbS b1 e; omega))
  have hb28 := (get_set_ne (by omega : b3 ≠ b1 + 1) (row 27 [.slice a0 g.nt c0, .slice a1 g.lev.length c1, .slice a2 g.pats.length c2, .slice a3 g.nn c3, .slice a4' n4' c4'])).trans (hf8.get (hE7.get hb26) (fun e => by have := hbS _ e; omega))
  have hb39 := get_set (lt_of_get hb38) (row 27 [.slice a0 g.nt c0, .slice a1 g.lev.length c1, .slice a2 g.pats.length c2, .slice a3 g.nn c3, .slice a4' n4' c4'])
  have hb3l : b3 < H3.size := lt_of_get hb33
  have hBd' : Bd' = Bd ∨ ∃ nb, H3.size ≤ nb ∧ Bd' = some nb := by
    rcases hBd8 with e | e
    · exact .inl e
    · exact .inr ⟨H7.size, by have := hEq.size; omega, e⟩
  have hBrd : ∀ b, Br = some b → b1 + 2 ≤ b ∧ b ≠ b3 ∧ Bd' ≠ some b := by
    intro b e
    have h1 := hor2 b e
    have h2 := hor6.lt b e
    have h3 := hEq.size
    refine ⟨by omega, by omega, fun e2 => ?_⟩
    rcases hBd8 with e3 | e3
    · rw [e3] at e2; have := hcp.pd.lt b e2; omega
    · rw [e3] at e2; injection e2 with e2; omega
  have hBd'3 : ∀ b, Bd' = some b → b ≠ b3 := by
    intro b e
    rcases hBd' with e2 | ⟨nb, h1, e2⟩
    · exact hbdb3 b (by rw [← e2, e])
    · rw [e2] at e; injection e with e; omega
  have hcp9 := hcp.more (H' := H8.setIfInBounds b3 (row 27 [.slice a0 g.nt c0, .slice a1 g.lev.length c1, .slice a2 g.pats.length c2, .slice a3 g.nn c3, .slice a4' n4' c4'])) (v4' := .slice a4' n4' c4') (p := gp g i) (r := .slice ar (gp g i).rhs.length cr) (B := Br) (Bd' := Bd') (by omega) hb3l ?_ hBd' ?_ hBrd ?_
  rotate_left
  · intro b h1 h2 h3
    rw [get_set_ne (fun e => h2 e.symm), hf8.blk b (by have := hEq.size; omega) h3, hE7.blk b (by have := hEq.size; omega), hkp6 b h1]
  · have h8 : Own H8 (.slice ar (gp g i).rhs.length cr) 3 1 (gp g i).rhs.length ((gp g i).rhs.map iv) Br := hor7.keep fun b e => hf8.blk b (hor7.lt b e) (fun e2 => by
      have := hcp.pd.lt b e2; have := hor2 b e; have := hEq.size; omega)
    exact h8.keep fun b e => get_set_ne (fun e2 => (hBrd b e).2.1 e2.symm) _
  · exact hpd8.keep fun b e => get_set_ne (fun e2 => hBd'3 b e e2.symm) _
  have hti : g.prods.take (i + 1) = g.prods.take i ++ [gp g i] := by
    rw [List.take_add_one, List.getElem?_eq_getElem hil, gp_nat g i hil]; rfl
  rw [← hti] at hcp9
  generalize H8.setIfInBounds b3 _ = H9 at *
  (try simp only [thenQ, blockQ])
  refine W_reg ?_; simp (maxSteps := 1000000) (disch := omega) only [BOps_nil, BOps_cons, Cont_eq, Bev, rd, ev, updO, upd, wantD, bin, optK_some, Nat.reduceEqDiff, ↓reduceIte, List.map, ne_eq, not_true_eq_false, wrapi, g4]
  simp only [thenQ]
  exact ⟨g.prods.length - (i + 1), by omega, i + 1, a4', n4', c4', Bd', _, by omega, rfl, by simp [upd, g1], by simp [upd, g2], by simp [upd, g3], by simp [upd], hE8, hb18, hb28, hb39, hcp9⟩
end Go.Proofs.Yteheedbhmggcgaa
