/- Maps. -/
import Derived.Test.YteheedbhmggcgaaVy7
namespace Go.Vy
open Go Go.RowKit
set_option linter.unusedVariables false
set_option linter.unusedSimpArgs false

/-- Can a value be hashed (bools, integers, strings, structs and arrays of these)? -/
def ckey (P : Program) : Nat → TypeId → Value → Bool
  | 0, _, _ => false
  | d + 1, t, v => match P.underlying t, v with
    | some (.int _), _ | some .string, _ | some .bool, _ => true
    | some (.array n e), .agg cs => match P.info? e with
      | some i => (List.range n).all fun j => match partV P e cs (j * i.size) with | some x => ckey P d e x | none => false
      | none => false
    | some (.struct fs), .agg cs => fs.toList.all fun x => x.name = "_" || (match partV P x.type cs x.offset with | some y => ckey P d x.type y | none => false)
    | _, _ => false
/-- Where a key is in a map's entries; none: it cannot be told. -/
def mfindA (P : Program) (kt : TypeId) (k : Value) : List MapEntry → Nat → Option (Option (Nat × Value))
  | [], _ => some none
  | e :: es, i => match eqv P 10000 kt k e.key with
    | some true => some (some (i, e.val))
    | some false => mfindA P kt k es (i + 1)
    | none => none
def mfind (P : Program) (kt : TypeId) (k : Value) (es : List MapEntry) : Option (Option (Nat × Value)) :=
  match P.underlying kt with
  | some d => match Instr.findNow d k es 0 with
    | some r => some r
    | none => mfindA P kt k es 0
  | none => none

section
variable {P : Program} {f : Nat → Value} {H : Hp} {K : Value → Hp → Prop} {ty : TypeId}
theorem forIn_yield {α : Type} {g : α → PUnit → Sem (ForInStep PUnit)} {w : World} : ∀ (l : List α), (∀ x ∈ l, (g x PUnit.unit).run P w = .ok (.yield PUnit.unit) w) →
    (forIn l PUnit.unit g).run P w = .ok PUnit.unit w
  | [], _ => rfl
  | x :: l, h => by
    rw [List.forIn_cons, bind_ok (h x (by simp))]
    exact forIn_yield l fun y hy => h y (by simp [hy])
theorem ckey_run {b : Bool} : ∀ (d : Nat) (t : TypeId) (v : Value) (w : World), ckey P d t v = true → (Instr.checkKey b d t v).run P w = .ok () w
  | 0, _, _, _, h => by simp [ckey] at h
  | d + 1, t, v, w, h => by
    unfold ckey at h
    unfold Instr.checkKey
    split at h
    · rename_i k x hu; rw [bind_ok (underlying_run hu w)]; rfl
    · rename_i x hu; rw [bind_ok (underlying_run hu w)]; rfl
    · rename_i x hu; rw [bind_ok (underlying_run hu w)]; rfl
    · rename_i n e cs hu
      rw [bind_ok (underlying_run hu w)]
      split at h
      · rename_i i hi
        have hr : List.range' 0 ((n - 0 + 1 - 1) / 1) 1 = List.range n := by simp [List.range_eq_range']
        simp only [Std.Legacy.Range.forIn_eq_forIn_range', Std.Legacy.Range.size, hr]
        rw [bind_ok (forIn_yield (List.range n) (by
          intro j hj
          have hx := List.all_eq_true.1 h j hj
          split at hx
          · rename_i x hp
            rw [bind_ok (sizeOf_run hi w), bind_ok (partV_run w hp), bind_ok (ckey_run d e x w hx)]; rfl
          · simp at hx))]
        rfl
      · simp at h
    · rename_i fs cs hu
      rw [bind_ok (underlying_run hu w)]
      simp only [← Array.forIn_toList]
      rw [bind_ok (forIn_yield fs.toList (by
        intro x hx
        have hx := List.all_eq_true.1 h x hx
        simp only [Bool.or_eq_true, decide_eq_true_eq] at hx
        by_cases hn : x.name = "_"
        · rw [if_neg (by simp [hn])]; rfl
        · rw [if_pos hn]
          rcases hx with hx | hx
          · exact absurd hx hn
          · split at hx
            · rename_i y hp
              rw [bind_ok (partV_run w hp), bind_ok (ckey_run d x.type y w hx)]; rfl
            · simp at hx))]
      rfl
    · simp at h
theorem mfindA_run {kt : TypeId} {k : Value} {w : World} : ∀ (es : List MapEntry) (i : Nat) (r : Option (Nat × Value)), mfindA P kt k es i = some r → (Instr.findAsking kt k es i).run P w = .ok r w
  | [], i, r, h => by simp only [mfindA] at h; injection h with h; subst h; rfl
  | e :: es, i, r, h => by
    simp only [mfindA] at h
    simp only [Instr.findAsking]
    split at h
    · rename_i he; injection h with h; subst h
      rw [bind_ok (show (Op.equal kt k e.key).run P w = .ok true w from eqv_run 10000 _ _ _ _ w he)]; rfl
    · rename_i he
      rw [bind_ok (show (Op.equal kt k e.key).run P w = .ok false w from eqv_run 10000 _ _ _ _ w he)]
      exact mfindA_run es (i + 1) r h
    · simp at h
theorem mfind_run {kt : TypeId} {k : Value} {es : List MapEntry} {r : Option (Nat × Value)} (w : World) (h : mfind P kt k es = some r) : (Instr.findKey kt k es).run P w = .ok r w := by
  unfold mfind at h
  split at h
  · rename_i d hu
    unfold Instr.findKey
    rw [bind_ok (underlying_run hu w)]
    split at h
    · rename_i r' hr; injection h with h; subst h; rw [hr]; rfl
    · rename_i hr; rw [hr]; exact mfindA_run es 0 r h
  · simp at h
end
end Go.Vy
