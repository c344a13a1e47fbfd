/- Comparing values, keys of maps. -/
import Derived.Test.YteheedbhmggcgaaVy6
namespace Go.Vy
open Go Go.RowKit
set_option linter.unusedVariables false
set_option linter.unusedSimpArgs false

def partV (P : Program) (t : TypeId) (cs : Array Value) (o : Nat) : Option Value := (tk P t).bind fun (b, s) => prt cs.toList b o s
def eqFs (P : Program) (eq : TypeId → Value → Value → Option Bool) (xs ys : Array Value) : List Field → Option Bool
  | [] => some true
  | x :: r => if x.name = "_" then eqFs P eq xs ys r else
    match partV P x.type xs x.offset, partV P x.type ys x.offset with
    | some a, some b => match eq x.type a b with
      | some true => eqFs P eq xs ys r
      | some false => some false
      | none => none
    | _, _ => none
def eqAs (P : Program) (eq : TypeId → Value → Value → Option Bool) (xs ys : Array Value) (e : TypeId) (s : Nat) : List Nat → Option Bool
  | [] => some true
  | i :: r =>
    match partV P e xs (i * s), partV P e ys (i * s) with
    | some a, some b => match eq e a b with
      | some true => eqAs P eq xs ys e s r
      | some false => some false
      | none => none
    | _, _ => none
/-- '==' on bools, integers, strings, and structs and arrays of these. -/
def eqv (P : Program) : Nat → TypeId → Value → Value → Option Bool
  | 0, _, _, _ => none
  | d + 1, t, x, y => match P.underlying t, x, y with
    | some .bool, .bool a, .bool b => some (a == b)
    | some (.int _), .int k a, .int k' b => if k = k' then some (a == b) else none
    | some .string, .string a, .string b => some (a == b)
    | some (.struct fs), .agg xs, .agg ys => if P.stoodInHeld t then none else eqFs P (eqv P d) xs ys fs.toList
    | some (.array n e), .agg xs, .agg ys => match P.info? e with
      | some i => eqAs P (eqv P d) xs ys e i.size (List.range n)
      | none => none
    | _, _, _ => none

section
variable {P : Program}
theorem partV_run {t : TypeId} {cs : Array Value} {o : Nat} {v : Value} (w : World) (h : partV P t cs o = some v) : (part t cs o).run P w = .ok v w := by
  unfold partV at h
  cases ht : tk P t with
  | none => simp [ht] at h
  | some x => obtain ⟨b, s⟩ := x; simp only [ht, Option.bind_some] at h; exact prt_run ht w h
theorem fs_run {eq : TypeId → Value → Value → Option Bool} {d : Nat} {w : World} (IH : ∀ t x y r, eq t x y = some r → (Op.equalIn d t x y).run P w = .ok r w) (xs ys : Array Value) :
    ∀ (l : List Field) (r : Bool), eqFs P eq xs ys l = some r →
    (forIn l ((none, ()) : Option Bool × Unit) fun f (_ : Option Bool × Unit) =>
      if f.name ≠ "_" then do
        let a ← part f.type xs f.offset
        let b ← part f.type ys f.offset
        let c ← Op.equalIn d f.type a b
        if (!c) = true then pure (ForInStep.done (some false, ())) else pure (ForInStep.yield (none, ()))
      else (pure (ForInStep.yield (none, ())) : Sem _)).run P w = .ok (if r then (none, ()) else (some false, ())) w
  | [], r, h => by simp only [eqFs] at h; injection h with h; subst h; rfl
  | x :: l, r, h => by
    rw [List.forIn_cons]
    simp only [eqFs] at h
    by_cases hn : x.name = "_"
    · rw [if_pos hn] at h
      rw [if_neg (by simp [hn]), pure_bind]
      exact fs_run IH xs ys l r h
    · rw [if_neg hn] at h
      rw [if_pos (by simp [hn])]
      split at h
      · rename_i a b ha hb
        split at h
        · rename_i he
          have : ((do
            let a ← part x.type xs x.offset
            let b ← part x.type ys x.offset
            let c ← Op.equalIn d x.type a b
            if (!c) = true then pure (ForInStep.done (some false, ())) else pure (ForInStep.yield (none, ())) : Sem (ForInStep (Option Bool × Unit)))).run P w = .ok (ForInStep.yield (none, ())) w := by
            rw [bind_ok (partV_run w ha), bind_ok (partV_run w hb), bind_ok (IH _ _ _ _ he)]; rfl
          rw [bind_ok this]
          exact fs_run IH xs ys l r h
        · rename_i he
          injection h with h; subst h
          have : ((do
            let a ← part x.type xs x.offset
            let b ← part x.type ys x.offset
            let c ← Op.equalIn d x.type a b
            if (!c) = true then pure (ForInStep.done (some false, ())) else pure (ForInStep.yield (none, ())) : Sem (ForInStep (Option Bool × Unit)))).run P w = .ok (ForInStep.done (some false, ())) w := by
            rw [bind_ok (partV_run w ha), bind_ok (partV_run w hb), bind_ok (IH _ _ _ _ he)]; rfl
          rw [bind_ok this]; rfl
        · simp at h
      · simp at h
theorem as_run {eq : TypeId → Value → Value → Option Bool} {d : Nat} {w : World} (IH : ∀ t x y r, eq t x y = some r → (Op.equalIn d t x y).run P w = .ok r w) (xs ys : Array Value) (e : TypeId) (s : Nat) :
    ∀ (l : List Nat) (r : Bool), eqAs P eq xs ys e s l = some r →
    (forIn l ((none, ()) : Option Bool × Unit) fun i (_ : Option Bool × Unit) => (do
        let a ← part e xs (i * s)
        let b ← part e ys (i * s)
        let c ← Op.equalIn d e a b
        if (!c) = true then pure (ForInStep.done (some false, ())) else pure (ForInStep.yield (none, ())) : Sem _)).run P w = .ok (if r then (none, ()) else (some false, ())) w
  | [], r, h => by simp only [eqAs] at h; injection h with h; subst h; rfl
  | i :: l, r, h => by
    rw [List.forIn_cons]
    simp only [eqAs] at h
    split at h
    · rename_i a b ha hb
      split at h
      · rename_i he
        have : ((do
          let a ← part e xs (i * s)
          let b ← part e ys (i * s)
          let c ← Op.equalIn d e a b
          if (!c) = true then pure (ForInStep.done (some false, ())) else pure (ForInStep.yield (none, ())) : Sem (ForInStep (Option Bool × Unit)))).run P w = .ok (ForInStep.yield (none, ())) w := by
          rw [bind_ok (partV_run w ha), bind_ok (partV_run w hb), bind_ok (IH _ _ _ _ he)]; rfl
        rw [bind_ok this]
        exact as_run IH xs ys e s l r h
      · rename_i he
        injection h with h; subst h
        have : ((do
          let a ← part e xs (i * s)
          let b ← part e ys (i * s)
          let c ← Op.equalIn d e a b
          if (!c) = true then pure (ForInStep.done (some false, ())) else pure (ForInStep.yield (none, ())) : Sem (ForInStep (Option Bool × Unit)))).run P w = .ok (ForInStep.done (some false, ())) w := by
          rw [bind_ok (partV_run w ha), bind_ok (partV_run w hb), bind_ok (IH _ _ _ _ he)]; rfl
        rw [bind_ok this]; rfl
      · simp at h
    · simp at h
theorem eqv_run : ∀ (d : Nat) (t : TypeId) (x y : Value) (r : Bool) (w : World), eqv P d t x y = some r → (Op.equalIn d t x y).run P w = .ok r w
  | 0, _, _, _, _, _, h => by simp [eqv] at h
  | d + 1, t, x, y, r, w, h => by
    unfold eqv at h
    rw [Op.equalIn]
    split at h
    · rename_i a b hu; injection h with h; subst h
      rw [bind_ok (underlying_run hu w)]; rfl
    · rename_i k' k a k2 b hu
      split at h
      · rename_i hk; injection h with h; subst h; subst hk
        rw [bind_ok (underlying_run hu w)]
        simp
      · simp at h
    · rename_i a b hu; injection h with h; subst h
      rw [bind_ok (underlying_run hu w)]; rfl
    · rename_i fs xs ys hu
      split at h
      · simp at h
      · rename_i hst
        rw [bind_ok (underlying_run hu w)]
        show (program >>= _).run P w = _
        rw [bind_ok (show program.run P w = .ok P w from rfl)]
        simp only [← Array.forIn_toList]
        rw [if_neg hst, bind_ok (fs_run (fun t x y r h => eqv_run d t x y r w h) xs ys fs.toList r h)]
        cases r <;> rfl
    · rename_i n e xs ys hu
      split at h
      · rename_i i hi
        rw [bind_ok (underlying_run hu w)]
        show (sizeOf e >>= _).run P w = _
        rw [bind_ok (sizeOf_run hi w)]
        have hr : List.range' 0 ((n - 0 + 1 - 1) / 1) 1 = List.range n := by simp [List.range_eq_range']
        simp only [Std.Legacy.Range.forIn_eq_forIn_range', Std.Legacy.Range.size, hr]
        rw [bind_ok (as_run (fun t x y r h => eqv_run d t x y r w h) xs ys e i.size (List.range n) r h)]
        cases r <;> rfl
      · simp at h
    · simp at h
end
end Go.Vy
