/- Slicing, calls, values that are built; and the theorem that an operation's condition ('Bev') is enough. -/
import Derived.Test.YteheedbhmggcgaaVy5
namespace Go.Vy
open Go Go.RowKit
set_option linter.unusedVariables false
set_option linter.unusedSimpArgs false

def toN (d : Nat) : Option Value → Option Nat
  | none => some d
  | some (.int _ i) => if 0 ≤ i then some i.toNat else none
  | some _ => none
def bnd (len cap : Nat) (lo hi mx : Option Value) : Option (Nat × Nat × Nat) :=
  match toN cap mx, toN len hi, toN 0 lo with
  | some m, some h, some l => if l ≤ h ∧ h ≤ m ∧ m ≤ cap ∧ (mx.isSome = true → hi.isSome = true) then some (l, h, m) else none
  | _, _, _ => none
def slc (P : Program) (t : TypeId) (x : Value) (lo hi mx : Option Value) : Option Value :=
  match x, P.underlying t, ixk P t with
  | .slice a len cap, some (.slice _), some (none, s) => (bnd len cap lo hi mx).map fun (l, h, m) => .slice (if m = l then a else a.map (·.add (l * s))) (h - l) (m - l)
  | .pointer (some a), some (.array n _), some (some _, s) => (bnd n n lo hi mx).map fun (l, h, m) => .slice (some (if m = l then a else a.add (l * s))) (h - l) (m - l)
  | .string s, some .string, _ => if mx.isSome then none else (bnd s.size s.size lo hi none).map fun (l, h, _) => .string (s.extract l h)
  | _, _, _ => none

section
variable {P : Program} {f : Nat → Value} {H : Hp} {K : Value → Hp → Prop} {ty : TypeId} {op : Op}
theorem sliceBound_run {k : IntKind} {i : Int} {y : Nat} {code : BoundsCode} (w : World) (h0 : 0 ≤ i) (h1 : i.toNat ≤ y) : (Instr.sliceBound (.int k i) y code).run P w = .ok i.toNat w := by
  unfold Instr.sliceBound
  rw [bind_ok (show (asIntOf (.int k i)).run P w = .ok (k, i) w from rfl)]
  simp only []
  rw [if_pos ⟨h0, by omega⟩]; rfl
theorem toN_some {d k : Nat} {v : Value} (h : toN d (some v) = some k) : ∃ kk i, v = .int kk i ∧ 0 ≤ i ∧ i.toNat = k := by
  cases v <;> simp only [toN, reduceCtorEq] at h
  rename_i kk i
  split at h
  · rename_i h0; injection h with h; exact ⟨kk, i, rfl, h0, h⟩
  · simp at h
theorem bnd_run {b : Bool} {len cap : Nat} {lo hi mx : Option Value} {l h m : Nat} (w : World) (hb : bnd len cap lo hi mx = some (l, h, m)) : (Instr.sliceBounds b len cap lo hi mx).run P w = .ok (l, h, m) w := by
  unfold bnd at hb
  split at hb
  · rename_i m' h' l' hm hh hl
    split at hb
    · rename_i hc
      injection hb with hb; injection hb with e1 hb; injection hb with e2 e3
      subst e1; subst e2; subst e3
      obtain ⟨c1, c2, c3, c4⟩ := hc
      unfold Instr.sliceBounds
      cases mx with
      | none =>
        simp only [toN] at hm; injection hm with hm; subst hm
        show ((pure cap : Sem Nat) >>= _).run P w = _
        rw [pure_bind]
        cases hi with
        | none =>
          simp only [toN] at hh; injection hh with hh; subst hh
          show ((pure len : Sem Nat) >>= _).run P w = _
          rw [pure_bind]
          cases lo with
          | none => simp only [toN] at hl; injection hl with hl; subst hl; rfl
          | some v =>
            obtain ⟨kk, i, rfl, h0, rfl⟩ := toN_some hl
            show (Instr.sliceBound (.int kk i) len _ >>= _).run P w = _
            rw [bind_ok (sliceBound_run w h0 c1)]; rfl
        | some v =>
          obtain ⟨kk, i, rfl, h0, rfl⟩ := toN_some hh
          show (Instr.sliceBound (.int kk i) cap _ >>= _).run P w = _
          rw [bind_ok (sliceBound_run w h0 c2)]
          cases lo with
          | none => simp only [toN] at hl; injection hl with hl; subst hl; rfl
          | some v =>
            obtain ⟨kk', i', rfl, h0', rfl⟩ := toN_some hl
            show (Instr.sliceBound (.int kk' i') i.toNat _ >>= _).run P w = _
            rw [bind_ok (sliceBound_run w h0' c1)]; rfl
      | some v =>
        obtain ⟨kk, i, rfl, h0, rfl⟩ := toN_some hm
        show (Instr.sliceBound (.int kk i) cap _ >>= _).run P w = _
        rw [bind_ok (sliceBound_run w h0 c3)]
        cases hi with
        | none => simp at c4
        | some v =>
          obtain ⟨kk1, i1, rfl, h1, rfl⟩ := toN_some hh
          show (Instr.sliceBound (.int kk1 i1) i.toNat _ >>= _).run P w = _
          rw [bind_ok (sliceBound_run w h1 c2)]
          cases lo with
          | none => simp only [toN] at hl; injection hl with hl; subst hl; rfl
          | some v =>
            obtain ⟨kk', i', rfl, h0', rfl⟩ := toN_some hl
            show (Instr.sliceBound (.int kk' i') i1.toNat _ >>= _).run P w = _
            rw [bind_ok (sliceBound_run w h0' c1)]; rfl
    · simp at hb
  · simp at hb
theorem slc_run {t : TypeId} {x v : Value} {lo hi mx : Option Value} (w : World) (h : slc P t x lo hi mx = some v) : (Instr.sliceAt t x lo hi mx).run P w = .ok v w := by
  unfold slc at h
  split at h
  · rename_i a len cap e s hu hk
    rcases ixk_spec hk with ⟨n', e', inf, hh, _⟩ | ⟨e', inf, _, hu', hinf, rfl⟩
    · simp at hh
    rw [hu] at hu'; injection hu' with hu'; injection hu' with hu'; subst hu'
    cases hb : bnd len cap lo hi mx with
    | none => simp [hb] at h
    | some x =>
      obtain ⟨l, hh, m⟩ := x
      simp only [hb, Option.map_some] at h; injection h with h; subst h
      unfold Instr.sliceAt
      rw [bind_ok (underlying_run hu w)]
      show (Instr.slice t (.slice a len cap) lo hi mx).run P w = _
      unfold Instr.slice
      rw [bind_ok (underlying_run hu w)]
      show (Instr.sliceBounds true len cap lo hi mx >>= _).run P w = _
      rw [bind_ok (bnd_run w hb)]
      simp only []
      rw [bind_ok (sizeOf_run hinf w)]
      rfl
  · rename_i a n e k s hu hk
    rcases ixk_spec hk with ⟨n', e', inf, hh, hu', hinf, rfl⟩ | ⟨e', inf, hh, _⟩
    rotate_left
    · simp at hh
    rw [hu] at hu'; injection hu' with hu'; injection hu' with e1 e2; subst e1; subst e2
    cases hb : bnd n n lo hi mx with
    | none => simp [hb] at h
    | some x =>
      obtain ⟨l, hh, m⟩ := x
      simp only [hb, Option.map_some] at h; injection h with h; subst h
      unfold Instr.sliceAt
      rw [bind_ok (underlying_run hu w)]
      show (Instr.sureAddr (.pointer (some a)) >>= _).run P w = _
      rw [bind_ok (show (Instr.sureAddr (.pointer (some a))).run P w = .ok a w from rfl), bind_ok (bnd_run w hb)]
      simp only []
      rw [bind_ok (sizeOf_run hinf w)]
      rfl
  · rename_i o s hu
    split at h
    · simp at h
    · rename_i hm
      cases mx with
      | some v => simp at hm
      | none =>
        cases hb : bnd s.size s.size lo hi none with
        | none => simp [hb] at h
        | some x =>
          obtain ⟨l, hh, m⟩ := x
          simp only [hb, Option.map_some] at h; injection h with h; subst h
          unfold Instr.sliceAt
          rw [bind_ok (underlying_run hu w)]
          show (Instr.slice t (.string s) lo hi none).run P w = _
          unfold Instr.slice
          rw [bind_ok (underlying_run hu w)]
          show (Instr.sliceBounds false s.size s.size lo hi none >>= _).run P w = _
          rw [bind_ok (bnd_run w hb)]
          rfl
  · simp at h
theorem Aev_call {c : Call} {x : Operand} {F : FuncId} {a b : Array Value} (hc : c.callee = .value x) (hx : ev f x = .func (.func F) a b) (h : CallsV P F (a ++ c.args.map (ev f) ++ b) H K) : Aev P (.call c) ty f H K := by
  intro w hw
  subst hw
  have : (execOp (ev f) ⟨none, .call c, ty, "", #[], none⟩).run P w = .ok (.enter F (a ++ c.args.map (ev f) ++ b)) w := by
    simp only [execOp, resolve, hc, hx]
    show (callFunc F (a ++ c.args.map (ev f) ++ b)).run P w = _
    exact h.1 _ w
  rw [this]
  exact ⟨.refl w, K, fun _ _ h => h, h⟩

/-! ### Values that are built out of parts -/
def bld (sizes : Nat → Option (Nat × Nat)) : List Value → List (Nat × Value) → Option (List Value)
  | l, [] => some l
  | l, (i, v) :: r => match sizes i with
    | some (o, s) => if v.cells.size = s ∧ o + s ≤ l.length then bld sizes (ow l o v.cells.toList) r else none
    | none => none
theorem ow_set {l : List Value} {i : Nat} {v : Value} {r : List Value} (h : i < l.length) : ow (l.set i v) (i + 1) r = ow l i (v :: r) := by
  unfold ow
  have h1 : (l.set i v).take (i + 1) = l.take i ++ [v] := by
    rw [List.take_set, List.take_succ_eq_append_getElem h, List.set_append_right _ _ (by simp; omega)]
    simp [show i - min i l.length = 0 by omega]
  have h2 : (l.set i v).drop (i + 1 + r.length) = l.drop (i + (r.length + 1)) := by
    rw [List.drop_set, if_pos (by omega)]; congr 1; omega
  rw [h1, h2]; simp
theorem foldl_set (vs : List Value) : ∀ (k o : Nat) (c : Array Value), o + k + vs.length ≤ c.size →
    (vs.zipIdx k).foldl (fun cs (x : Value × Nat) => cs.setIfInBounds (o + x.2) x.1) c = (ow c.toList (o + k) vs).toArray := by
  induction vs with
  | nil => intro k o c h; simp [ow]
  | cons v r ih =>
    intro k o c h
    simp only [List.zipIdx_cons, List.foldl_cons]
    rw [ih (k + 1) o _ (by simp at h ⊢; omega)]
    rw [Array.toList_setIfInBounds, ← Nat.add_assoc, ow_set (by simp at h ⊢; omega)]
theorem bld_fill {sizes : Nat → Option (Nat × Nat)} : ∀ (ps : List (Nat × Value)) (l l' : List Value), bld sizes l ps = some l' → Instr.fill sizes l.toArray ps = some l'.toArray
  | [], l, l', h => by simp only [bld] at h; injection h with h; subst h; rfl
  | (i, v) :: r, l, l', h => by
    simp only [bld] at h
    simp only [Instr.fill]
    cases hs : sizes i with
    | none => simp [hs] at h
    | some x =>
      obtain ⟨o, s⟩ := x
      simp only [hs] at h ⊢
      split at h
      · rename_i hc
        rw [if_neg (by simp; exact ⟨hc.1, by rw [hc.1]; exact hc.2⟩)]
        have := foldl_set v.cells.toList 0 o l.toArray (by simp; rw [hc.1]; exact hc.2)
        have e : v.cells.zipIdx.foldl (fun cs (x : Value × Nat) => cs.setIfInBounds (o + x.2) x.1) l.toArray = (ow l o v.cells.toList).toArray := by
          rw [← Array.foldl_toList]
          simpa using this
        have ih := bld_fill r _ _ h
        rw [← e] at ih
        exact ih
      · simp at h
end
end Go.Vy
