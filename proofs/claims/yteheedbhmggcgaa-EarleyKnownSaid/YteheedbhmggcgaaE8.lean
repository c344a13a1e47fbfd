import Derived.Test.YteheedbhmggcgaaE7
namespace Go.Proofs.Yteheedbhmggcgaa
open Go Go.Vy Go.Proofs
set_option linter.unusedSimpArgs false
set_option linter.unusedVariables false
/-- An item. -/
structure It where
  p : Int
  d : Int
  f : Int
  deriving DecidableEq, Inhabited
def It.cells (x : It) : List Value := [.int .i64 x.p, .int .i64 x.d, .int .i64 x.f]
def encIt (x : It) : Value := .agg #[.int .i64 x.p, .int .i64 x.d, .int .i64 x.f]
theorem cells_len (x : It) : x.cells.length = 3 := rfl
def chk3 : Option TypeDesc → Bool
  | some (.struct fs) => match fs.toList with
    | [a, b, c] => a.name != "_" && b.name != "_" && c.name != "_" && a.type == 3 && b.type == 3 && c.type == 3 && a.offset == 0 && b.offset == 1 && c.offset == 2
    | _ => false
  | _ => false
theorem chk3_spec {o : Option TypeDesc} (h : chk3 o = true) : ∃ fs a b c, o = some (.struct fs) ∧ fs.toList = [a, b, c] ∧ (a.name ≠ "_" ∧ b.name ≠ "_" ∧ c.name ≠ "_") ∧ (a.type = 3 ∧ b.type = 3 ∧ c.type = 3) ∧ a.offset = 0 ∧ b.offset = 1 ∧ c.offset = 2 := by
  unfold chk3 at h
  split at h
  · rename_i fs
    split at h
    · rename_i a b c hl
      simp at h
      exact ⟨fs, a, b, c, rfl, hl, ⟨h.1.1.1.1.1.1.1.1, h.1.1.1.1.1.1.1.2, h.1.1.1.1.1.1.2⟩, ⟨h.1.1.1.1.1.2, h.1.1.1.1.2, h.1.1.1.2⟩, h.1.1.2, h.1.2, h.2⟩
    · simp at h
  · simp at h
theorem key3 {t : TypeId} (h : chk3 (Try.prog.underlying t) = true) (hs : Try.prog.stoodInHeld t = false) : KeyT Try.prog t encIt := by
  obtain ⟨fs, a, b, c, hu, hl, ⟨n1, n2, n3⟩, ⟨t1, t2, t3⟩, o1, o2, o3⟩ := chk3_spec h
  have p0 : ∀ x : It, partV Try.prog 3 #[.int .i64 x.p, .int .i64 x.d, .int .i64 x.f] 0 = some (.int .i64 x.p) := by intro x; simp [partV, tk3, prt]
  have p1 : ∀ x : It, partV Try.prog 3 #[.int .i64 x.p, .int .i64 x.d, .int .i64 x.f] 1 = some (.int .i64 x.d) := by intro x; simp [partV, tk3, prt]
  have p2 : ∀ x : It, partV Try.prog 3 #[.int .i64 x.p, .int .i64 x.d, .int .i64 x.f] 2 = some (.int .i64 x.f) := by intro x; simp [partV, tk3, prt]
  have ck3 : ∀ n : Int, ckey Try.prog (9998 + 1) 3 (.int .i64 n) = true := by intro n; unfold ckey; simp [u3]
  have eq3 : ∀ n m : Int, eqv Try.prog (9998 + 1) 3 (.int .i64 n) (.int .i64 m) = some (n == m) := by intro n m; unfold eqv; simp [u3]
  refine ⟨?_, ?_, ⟨_, hu, fun a b => .inl rfl⟩, fun a => by simp [encIt, Instr.sameBits]⟩
  · intro x
    show ckey Try.prog ((9998 + 1) + 1) t (encIt x) = true
    unfold ckey
    simp only [hu, encIt, hl, List.all_cons, List.all_nil, t1, t2, t3, o1, o2, o3, p0, p1, p2, ck3, Bool.or_true, Bool.and_true]
  · intro x y
    show eqv Try.prog ((9998 + 1) + 1) t (encIt x) (encIt y) = _
    unfold eqv
    simp only [hu, encIt, hs, hl, eqFs, t1, t2, t3, o1, o2, o3, p0, p1, p2, eq3, n1, n2, n3, if_false, Bool.false_eq_true]
    obtain ⟨xp, xd, xf⟩ := x
    obtain ⟨yp, yd, yf⟩ := y
    simp only [It.mk.injEq]
    by_cases e1 : xp = yp
    · subst e1
      by_cases e2 : xd = yd
      · subst e2
        by_cases e3 : xf = yf
        · simp [e3]
        · have b3 : (xf == yf) = false := beq_eq_false_iff_ne.2 e3
          simp only [b3]; simp [e3]
      · have b2 : (xd == yd) = false := beq_eq_false_iff_ne.2 e2
        simp only [b2]; simp [e2]
    · have b1 : (xp == yp) = false := beq_eq_false_iff_ne.2 e1
      simp only [b1]; simp [e1]
theorem key68 : KeyT Try.prog 68 encIt := key3 (by kernel_rfl) (by kernel_rfl)
theorem key75 : KeyT Try.prog 75 encIt := key3 (by kernel_rfl) (by kernel_rfl)
/-- The chart in the heap: its block c; items by places; the rows' slices, their blocks; the maps' blocks. -/
structure Ch (H0 H : Hp) (c : Nat) (cs : List Value) (R : Nat → List It) (mb : Nat → Nat) (B : Nat → Option Nat) (rv : Nat → Value) : Prop where
  ext : Ext H0 H
  hc : H0.size ≤ c
  cb : ∃ l, H[c]? = some (row 66 l) ∧ l.length = 128 ∧ (∀ i, i < 6 → l[i]? = cs[i]?) ∧ (∀ i, i < 61 → l[6 + i]? = some (rv i)) ∧ (∀ i, i < 61 → l[67 + i]? = some (.map (some (mb i))))
  own : ∀ i, i < 61 → Own H (rv i) 68 3 (R i).length ((R i).flatMap It.cells) (B i)
  hB : ∀ i, i < 61 → ∀ b, B i = some b → H0.size ≤ b ∧ b ≠ c
  dB : ∀ i j, i < 61 → j < 61 → i ≠ j → ∀ b, B i = some b → B j ≠ some b
  hm : ∀ i, i < 61 → H0.size ≤ mb i ∧ mb i ≠ c
  dm : ∀ i j, i < 61 → j < 61 → i ≠ j → mb i ≠ mb j
  dBm : ∀ i j, i < 61 → j < 61 → B i ≠ some (mb j)
  maps : ∀ i, i < 61 → H[mb i]? = some (mobj encIt ((R i).map fun x => (x, .bool true)))
  nd : ∀ i, i < 61 → (R i).Nodup
def Off (c : Nat) (mb : Nat → Nat) (B : Nat → Option Nat) (b : Nat) : Prop := b ≠ c ∧ (∀ i, i < 61 → mb i ≠ b) ∧ ∀ i, i < 61 → B i ≠ some b
section
variable {H0 H H' : Hp} {c : Nat} {cs : List Value} {R : Nat → List It} {mb : Nat → Nat} {B : Nat → Option Nat} {rv : Nat → Value}
theorem Ch.grow (h : Ch H0 H c cs R mb B rv) (e : Ext H H') : Ch H0 H' c cs R mb B rv := by
  obtain ⟨l, h1, h2⟩ := h.cb
  exact ⟨h.ext.trans e, h.hc, ⟨l, e.get h1, h2⟩, fun i hi => (h.own i hi).keep fun b hb => e.blk b ((h.own i hi).lt b hb), h.hB, h.dB, h.hm, h.dm, h.dBm, fun i hi => e.get (h.maps i hi), h.nd⟩
theorem Ch.new (h : Ch H0 H c cs R mb B rv) {b : Nat} (hb : H.size ≤ b) : Off c mb B b := by
  obtain ⟨l, h1, h2⟩ := h.cb
  refine ⟨?_, fun i hi => ?_, fun i hi e => ?_⟩
  · have := lt_of_get h1; omega
  · have := lt_of_get (h.maps i hi); omega
  · have := (h.own i hi).lt b e; omega
theorem Ch.row (h : Ch H0 H c cs R mb B rv) (i : Int) (h0 : 0 ≤ i) (h1 : i < 61) : ldc H ⟨c, 6 + i.toNat * 1, none⟩ = some (rv i.toNat) := by
  obtain ⟨l, hl, h2, h3, h4, h5⟩ := h.cb
  rw [ldc_row hl, Nat.mul_one, h4 _ (by omega)]
theorem Ch.map (h : Ch H0 H c cs R mb B rv) (i : Int) (h0 : 0 ≤ i) (h1 : i < 61) : ldc H ⟨c, 67 + i.toNat * 1, none⟩ = some (.map (some (mb i.toNat))) := by
  obtain ⟨l, hl, h2, h3, h4, h5⟩ := h.cb
  rw [ldc_row hl, Nat.mul_one, h5 _ (by omega)]
theorem Ch.head (h : Ch H0 H c cs R mb B rv) (i : Nat) (h1 : i < 6) : ldc H ⟨c, i, none⟩ = cs[i]? := by
  obtain ⟨l, hl, h2, h3, h4, h5⟩ := h.cb
  rw [ldc_row hl, h3 _ h1]
end
end Go.Proofs.Yteheedbhmggcgaa
