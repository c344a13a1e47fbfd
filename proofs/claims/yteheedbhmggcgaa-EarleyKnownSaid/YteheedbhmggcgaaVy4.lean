/- The reading operations are what the model does. -/
import Derived.Test.YteheedbhmggcgaaVy3
namespace Go.Vy
open Go Go.RowKit
set_option linter.unusedVariables false
set_option linter.unusedSimpArgs false
section
variable {P : Program} {f : Nat → Value} {H : Hp} {K : Value → Hp → Prop} {ty : TypeId}
theorem add_none (b o n : Nat) : (⟨b, o, none⟩ : Addr).add n = ⟨b, o + n, none⟩ := by unfold Addr.add; split <;> simp_all
theorem tk_info {t : TypeId} {b : Bool} {n : Nat} (h : tk P t = some (b, n)) : ∃ i, P.info? t = some i ∧ i.size = n := by
  unfold tk at h
  split at h <;> simp_all
theorem tk_isAgg {t : TypeId} {b : Bool} {n : Nat} (h : tk P t = some (b, n)) (w : World) : (isAgg t).run P w = .ok b w := by
  unfold tk at h
  split at h
  · rename_i i hu hi; injection h with h; injection h with h1 h2; subst h1
    unfold isAgg; rw [bind_ok (underlying_run hu w)]; rfl
  · rename_i i hu hi; injection h with h; injection h with h1 h2; subst h1
    unfold isAgg; rw [bind_ok (underlying_run hu w)]; rfl
  · rename_i d i hns hna hu hi; injection h with h; injection h with h1 h2; subst h1
    unfold isAgg
    rw [bind_ok (underlying_run hu w)]
    cases d <;> first | rfl | (exfalso; exact hns _ _ rfl hi) | (exfalso; exact hna _ _ _ rfl hi) | (exfalso; exact hna _ _ _ rfl) | (exfalso; simp_all)
  · simp at h
theorem prt_run {t : TypeId} {cs : Array Value} {b : Bool} {o s : Nat} {v : Value} (ht : tk P t = some (b, s)) (w : World) (h : prt cs.toList b o s = some v) : (part t cs o).run P w = .ok v w := by
  obtain ⟨i, hi, rfl⟩ := tk_info ht
  unfold part
  rw [bind_ok (tk_isAgg ht w)]
  unfold prt at h
  cases b with
  | true =>
    simp only [if_true] at h ⊢
    injection h with h; subst h
    rw [bind_ok (sizeOf_run hi w), pure_run]
    congr 2
    apply Array.ext'
    simp [List.take_drop]
  | false =>
    simp only [Bool.false_eq_true, if_false] at h ⊢
    rw [Array.getElem?_toList] at h
    rw [h]; rfl
theorem fld_spec {t : TypeId} {i : Nat} {b : Bool} {o s : Nat} (h : fld P t i = some (b, o, s)) :
    ∃ fs x, P.underlying t = some (.struct fs) ∧ fs[i]? = some x ∧ tk P x.type = some (b, s) ∧ s ≠ 0 ∧ x.offset = o := by
  unfold fld at h
  split at h
  · rename_i fs hu
    split at h
    · rename_i x hx
      cases ht : tk P x.type with
      | none => simp [ht] at h
      | some y =>
        obtain ⟨b', s'⟩ := y
        simp only [ht, Option.bind_some] at h
        split at h
        · simp at h
        · rename_i hs
          injection h with h; injection h with h1 h; injection h with h2 h3
          subst h1; subst h2; subst h3
          exact ⟨fs, x, hu, hx, ht, hs, rfl⟩
    · simp at h
  · simp at h
theorem ixk_spec {t : TypeId} {k : Option Nat} {s : Nat} (h : ixk P t = some (k, s)) :
    (∃ n e i, k = some n ∧ P.underlying t = some (.array n e) ∧ P.info? e = some i ∧ i.size = s) ∨ (∃ e i, k = none ∧ P.underlying t = some (.slice e) ∧ P.info? e = some i ∧ i.size = s) := by
  unfold ixk at h
  split at h
  · rename_i n e hu
    cases hi : P.info? e with
    | none => simp [hi] at h
    | some i => simp [hi] at h; exact .inl ⟨n, e, i, h.1.symm, hu, hi, h.2⟩
  · rename_i e hu
    cases hi : P.info? e with
    | none => simp [hi] at h
    | some i => simp [hi] at h; exact .inr ⟨e, i, h.1.symm, hu, hi, h.2⟩
  · simp at h
theorem args_run {c : Call} {b : Builtin} {ty : TypeId} {f : Nat → Value} (hc : c.callee = .builtin b) (w : World) :
    (execOp (ev f) ⟨none, .call c, ty, "", #[], none⟩).run P w = (builtin b c.argTypes ty (c.args.map fun | .const _ => true | _ => false) (c.args.map (ev f))).run P w := by
  simp only [execOp, resolve, hc]
  rfl
theorem rdB_run {b : Builtin} {args : Array Value} {ts : Array TypeId} {cs : Array Bool} {v : Value} (w : World) (h : rdB P b args.toList ts.toList = some v) :
    (builtin b ts ty cs args).run P w = .ok (.value v) w := by
  obtain ⟨l⟩ := args
  obtain ⟨tl⟩ := ts
  unfold rdB at h
  split at h
  · rename_i x t h1 h2
    simp only at h1 h2
    subst h1; subst h2
    simp only [builtin]
    refine value_ok ?_
    split at h
    · rename_i e a n c hu
      injection h with h; subst h
      simp only [Builtin.len_]
      show (underlying t >>= _).run P w = _
      rw [bind_ok (underlying_run hu w)]; rfl
    · rename_i s hu
      injection h with h; subst h
      simp only [Builtin.len_]
      show (underlying t >>= _).run P w = _
      rw [bind_ok (underlying_run hu w)]; rfl
    · rename_i n e hu
      injection h with h; subst h
      simp only [Builtin.len_]
      show (underlying t >>= _).run P w = _
      rw [bind_ok (underlying_run hu w)]; rfl
    · simp at h
  · rename_i k a k' b h1
    simp only at h1; subst h1
    injection h with h; subst h
    rfl
  · rename_i k a k' b h1
    simp only at h1; subst h1
    injection h with h; subst h
    rfl
  · simp at h
theorem rd_run {op : Op} {v : Value} (w : World) (h : rd P op f w.heap = some v) : (execOp (ev f) ⟨none, op, ty, "", #[], none⟩).run P w = .ok (.value v) w := by
  cases op <;> simp only [rd, reduceCtorEq] at h
  case move x => injection h with h; subst h; rfl
  case assign x => injection h with h; subst h; rfl
  case pick c a b =>
    split at h
    · rename_i t hc
      injection h with h; subst h
      simp only [execOp, hc, asBool]
      cases t <;> rfl
    · simp at h
  case load t a =>
    split at h
    · rename_i p hp
      simp only [execOp, hp]
      exact value_ok (by unfold Instr.loadAt; rw [bind_ok (show (Instr.sureAddr (.pointer (some p))).run P w = .ok p w from rfl)]; exact ld_run w h)
    · simp at h
  case nilCheck x =>
    split at h
    · rename_i a hx; injection h with h; subst h; simp only [execOp, hx]; rfl
    · rename_i F a b hx; injection h with h; subst h; simp only [execOp, hx]; rfl
    · simp at h
  case binOp o t x y yt =>
    simp only [execOp]
    exact value_ok (by rw [bind_ok (guard_run w h)]; exact bin_run w h)
  case unOp o t x =>
    simp only [execOp]
    split at h
    · rename_i b hx; injection h with h; subst h; rw [hx]; rfl
    · rename_i k n hx; injection h with h; subst h; rw [hx]; rfl
    · rename_i k n hx; injection h with h; subst h; rw [hx]; rfl
    · simp at h
  case convert s d x =>
    simp only [execOp]
    split at h
    · rename_i sd k k' n hs hd hx
      injection h with h; subst h
      refine value_ok ?_
      unfold convert
      rw [bind_ok (underlying_run hs w), bind_ok (underlying_run hd w), hx]
      rfl
    · simp at h
  case makeFunc fn a b => injection h with h; subst h; rfl
  case fieldAddr t x i =>
    simp only [execOp]
    split at h
    · rename_i b o bb o' s hx hf
      injection h with h; subst h
      obtain ⟨fs, y, hu, hy, ht, hs, rfl⟩ := fld_spec hf
      obtain ⟨inf, hi, rfl⟩ := tk_info ht
      refine value_ok ?_
      unfold Instr.fieldAt
      rw [bind_ok (underlying_run hu w)]
      simp only [hy, hx]
      rw [bind_ok (show (Instr.sureAddr (.pointer (some ⟨b, o, none⟩))).run P w = .ok ⟨b, o, none⟩ w from rfl)]
      have : (fieldPlace ⟨b, o, none⟩ y).run P w = .ok ⟨b, o + y.offset, none⟩ w := by
        unfold fieldPlace
        rw [bind_ok (sizeOf_run hi w), if_neg hs, add_none]; rfl
      rw [bind_ok this]; rfl
    · simp at h
  case field t x i =>
    simp only [execOp]
    split at h
    · rename_i cs b o s hx hf
      obtain ⟨fs, y, hu, hy, ht, hs, rfl⟩ := fld_spec hf
      refine value_ok ?_
      unfold Instr.field
      rw [bind_ok (underlying_run hu w)]
      simp only [hy, hx]
      rw [bind_ok (show (asAgg (.agg cs)).run P w = .ok cs w from rfl)]
      exact prt_run ht w h
    · simp at h
  case indexAddr t x i =>
    simp only [execOp]
    split at h
    · rename_i k j b o n c s hi hx hk
      split at h
      · rename_i hin
        injection h with h; subst h
        rcases ixk_spec hk with ⟨n', e, inf, hh, _⟩ | ⟨e, inf, _, hu, hinf, rfl⟩
        · simp at hh
        refine value_ok ?_
        unfold Instr.indexAt
        rw [hi, bind_ok (show (asIntOf (.int k j)).run P w = .ok (k, j) w from rfl)]
        simp only []
        rw [bind_ok (underlying_run hu w), hx]
        simp only []
        rw [pure_bind, bind_ok (underlying_run hu w)]
        simp only []
        rw [if_pos (show 0 ≤ j ∧ j < (n : Int) from hin), bind_ok (sizeOf_run hinf w), add_none]; rfl
      · simp at h
    · rename_i k j b o n s hi hx hk
      split at h
      · rename_i hin
        injection h with h; subst h
        rcases ixk_spec hk with ⟨n', e, inf, hh, hu, hinf, rfl⟩ | ⟨e, inf, hh, _⟩
        rotate_left
        · simp at hh
        injection hh with hh; subst hh
        refine value_ok ?_
        unfold Instr.indexAt
        rw [hi, bind_ok (show (asIntOf (.int k j)).run P w = .ok (k, j) w from rfl)]
        simp only []
        rw [bind_ok (underlying_run hu w), hx]
        simp only []
        rw [bind_ok (show (Instr.sureAddr (.pointer (some ⟨b, o, none⟩))).run P w = .ok ⟨b, o, none⟩ w from rfl), pure_bind]
        simp only []
        rw [bind_ok (underlying_run hu w)]
        simp only []
        rw [if_pos (show 0 ≤ j ∧ j < (n : Int) from hin), bind_ok (sizeOf_run hinf w), add_none]; rfl
      · simp at h
    · simp at h
  case index t x i =>
    simp only [execOp]
    split at h
    · rename_i n e cs k j hu hx hi
      split at h
      · rename_i hin
        cases ht : tk P e with
        | none => simp [ht] at h
        | some y =>
          obtain ⟨b, s⟩ := y
          simp only [ht, Option.bind_some] at h
          obtain ⟨inf, hinf, rfl⟩ := tk_info ht
          refine value_ok ?_
          unfold Instr.index
          rw [hi, bind_ok (show (asIntOf (.int k j)).run P w = .ok (k, j) w from rfl)]
          simp only []
          rw [bind_ok (underlying_run hu w), hx]
          simp only []
          rw [if_pos (show 0 ≤ j ∧ j < (n : Int) from hin), bind_ok (sizeOf_run hinf w)]
          exact prt_run ht w h
      · simp at h
    · rename_i s k j hu hx hi
      split at h
      · rename_i hin
        refine value_ok ?_
        unfold Instr.index
        rw [hi, bind_ok (show (asIntOf (.int k j)).run P w = .ok (k, j) w from rfl)]
        simp only []
        rw [bind_ok (underlying_run hu w), hx]
        simp only []
        rw [if_pos (show 0 ≤ j from hin.1)]
        cases hs : s[j.toNat]? with
        | none => simp [hs] at h
        | some b => simp only [hs, Option.map_some] at h; injection h with h; subst h; rfl
      · simp at h
    · simp at h
  case extract t i =>
    simp only [execOp]
    split at h
    · rename_i vs hx
      rw [hx]; refine value_ok ?_
      simp only [Instr.extract, h]; rfl
    · simp at h
  case call c =>
    split at h
    · rename_i b hb
      rw [args_run hb]
      exact rdB_run w (by simpa using h)
    · simp at h
end
end Go.Vy
