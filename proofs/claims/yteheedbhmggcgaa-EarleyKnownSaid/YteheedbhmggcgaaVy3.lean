/- What single operations come to (the second part): reading operations as a function, the others as conditions. -/
import Derived.Test.YteheedbhmggcgaaVy2
namespace Go.Vy
open Go Go.RowKit
set_option linter.unusedVariables false
set_option linter.unusedSimpArgs false

/-- A cell, or several, out of an aggregate. -/
def prt (c : List Value) (b : Bool) (o s : Nat) : Option Value := if b then some (.agg ((c.drop o).take s).toArray) else c[o]?

def bin (P : Program) (op : BinOp) (t : TypeId) (x y : Value) : Option Value :=
  match x, y with
  | .int k a, .int k' b =>
    match op with
    | .shl => if b < 0 then none else some (.int k (k.wrap (a * 2 ^ (min b.toNat k.bits))))
    | .shr => if b < 0 then none else some (.int k (a.fdiv (2 ^ (min b.toNat k.bits))))
    | op => if k ≠ k' then none else
      match op with
      | .add => some (.int k (k.wrap (a + b)))
      | .sub => some (.int k (k.wrap (a - b)))
      | .mul => some (.int k (k.wrap (a * b)))
      | .quo => if b = 0 then none else some (.int k (k.wrap (a.tdiv b)))
      | .rem => if b = 0 then none else some (.int k (a.tmod b))
      | .and => some (.int k (k.wrap (BitVec.ofInt k.bits a &&& BitVec.ofInt k.bits b).toNat))
      | .or => some (.int k (k.wrap (BitVec.ofInt k.bits a ||| BitVec.ofInt k.bits b).toNat))
      | .xor => some (.int k (k.wrap (BitVec.ofInt k.bits a ^^^ BitVec.ofInt k.bits b).toNat))
      | .andNot => some (.int k (k.wrap (BitVec.ofInt k.bits a &&& ~~~ BitVec.ofInt k.bits b).toNat))
      | .eql => some (.bool (a == b))
      | .neq => some (.bool (a != b))
      | .lss => some (.bool (decide (a < b)))
      | .leq => some (.bool (decide (a ≤ b)))
      | .gtr => some (.bool (decide (a > b)))
      | .geq => some (.bool (decide (a ≥ b)))
      | _ => none
  | .bool a, .bool b => match P.underlying t, op with
    | some .bool, .eql => some (.bool (a == b))
    | some .bool, .neq => some (.bool (!(a == b)))
    | _, _ => none
  | .slice none _ _, .slice b _ _ => match P.underlying t, op with
    | some (.slice _), .eql => some (.bool b.isNone)
    | some (.slice _), .neq => some (.bool (!b.isNone))
    | _, _ => none
  | .slice (some _) _ _, .slice none _ _ => match P.underlying t, op with
    | some (.slice _), .eql => some (.bool false)
    | some (.slice _), .neq => some (.bool true)
    | _, _ => none
  | .string a, .string b => match op with
    | .eql => some (.bool (a.toList == b.toList))
    | .neq => some (.bool (!(a.toList == b.toList)))
    | .lss => some (.bool (Op.bytesLess a.toList b.toList))
    | _ => none
  | _, _ => none

/-- A slice's, or an array's, index within bounds. -/
def inI (i : Int) (n : Nat) : Prop := 0 ≤ i ∧ i < n
instance (i : Int) (n : Nat) : Decidable (inI i n) := inferInstanceAs (Decidable (_ ∧ _))

/-- The built-in functions that only read. -/
def rdB (P : Program) (b : Builtin) (vs : List Value) (ts : List TypeId) : Option Value :=
  match b, vs, ts with
  | .len, [x], [t] => match P.underlying t, x with
    | some (.slice _), .slice _ n _ => some (.int .i64 n)
    | some .string, .string s => some (.int .i64 s.size)
    | some (.array n _), _ => some (.int .i64 n)
    | _, _ => none
  | .min, [.int k a, .int _ b], _ => some (.int k (if b < a then b else a))
  | .max, [.int k a, .int _ b], _ => some (.int k (if b > a then b else a))
  | _, _, _ => none

/-- The operations that only read. -/
def rd (P : Program) (op : Op) (f : Nat → Value) (H : Hp) : Option Value :=
  match op with
  | .move x | .assign x => some (ev f x)
  | .pick c a b => match ev f c with | .bool t => some (if t then ev f a else ev f b) | _ => none
  | .load t a => match ev f a with | .pointer (some p) => ld P H t p | _ => none
  | .nilCheck x => match ev f x with
    | .pointer (some a) => some (.pointer (some a))
    | .func (.func F) a b => some (.func (.func F) a b)
    | _ => none
  | .binOp o t x y _ => bin P o t (ev f x) (ev f y)
  | .unOp o _ x => match o, ev f x with
    | .not, .bool b => some (.bool (!b))
    | .neg, .int k n => some (.int k (k.wrap (0 - n)))
    | .xor, .int k n => some (.int k (k.wrap (BitVec.ofInt k.bits (if k.signed then -1 else k.max) ^^^ BitVec.ofInt k.bits n).toNat))
    | _, _ => none
  | .convert s d x => match P.underlying s, P.underlying d, ev f x with
    | some _, some (.int k), .int _ n => some (.int k (k.wrap n))
    | _, _, _ => none
  | .makeFunc fn a b => some (.func fn (a.map (ev f)) (b.map (ev f)))
  | .fieldAddr t x i => match ev f x, fld P t i with
    | .pointer (some ⟨b, o, none⟩), some (_, o', _) => some (.pointer (some ⟨b, o + o', none⟩))
    | _, _ => none
  | .field t x i => match ev f x, fld P t i with
    | .agg cs, some (b, o, s) => prt cs.toList b o s
    | _, _ => none
  | .indexAddr t x i => match ev f i, ev f x, ixk P t with
    | .int _ j, .slice (some ⟨b, o, none⟩) n _, some (none, s) => if inI j n then some (.pointer (some ⟨b, o + j.toNat * s, none⟩)) else none
    | .int _ j, .pointer (some ⟨b, o, none⟩), some (some n, s) => if inI j n then some (.pointer (some ⟨b, o + j.toNat * s, none⟩)) else none
    | _, _, _ => none
  | .index t x i => match P.underlying t, ev f x, ev f i with
    | some (.array n e), .agg cs, .int _ j => if inI j n then (tk P e).bind fun (b, s) => prt cs.toList b (j.toNat * s) s else none
    | some .string, .string s, .int _ j => if inI j s.size then (s[j.toNat]?).map fun b => .int .u8 b.toNat else none
    | _, _, _ => none
  | .extract t i => match ev f t with | .tuple vs => vs[i]? | _ => none
  | .call c => match c.callee with
    | .builtin b => rdB P b (c.args.toList.map (ev f)) c.argTypes.toList
    | _ => none
  | _ => none

section
variable {P : Program} {f : Nat → Value} {H : Hp} {K : Value → Hp → Prop} {ty : TypeId}
theorem value_ok {s : Sem Value} {v : Value} {w : World} (h : s.run P w = .ok v w) : (do pure (Next.value (← s)) : Sem Next).run P w = .ok (.value v) w := by
  rw [bind_ok h]; rfl

theorem eqIn_bool {d : Nat} {t : TypeId} {a b : Bool} {w : World} (hu : P.underlying t = some .bool) : (Op.equalIn (d + 1) t (.bool a) (.bool b)).run P w = .ok (a == b) w := by
  rw [Op.equalIn, bind_ok (underlying_run hu w)]; rfl
theorem eqIn_nil {d : Nat} {t e : TypeId} {n c m k : Nat} {b : Option Addr} {w : World} (hu : P.underlying t = some (.slice e)) : (Op.equalIn (d + 1) t (.slice none n c) (.slice b m k)).run P w = .ok b.isNone w := by
  rw [Op.equalIn, bind_ok (underlying_run hu w)]; rfl
theorem eqIn_nil2 {d : Nat} {t e : TypeId} {n c m k : Nat} {b : Addr} {w : World} (hu : P.underlying t = some (.slice e)) : (Op.equalIn (d + 1) t (.slice (some b) n c) (.slice none m k)).run P w = .ok false w := by
  rw [Op.equalIn, bind_ok (underlying_run hu w)]; rfl
theorem equal_run {t : TypeId} {x y : Value} {b : Bool} {w : World} (h : (Op.equalIn (9999 + 1) t x y).run P w = .ok b w) : (Op.equal t x y).run P w = .ok b w := h

theorem bin_run {op : BinOp} {t : TypeId} {x y : Value} {v : Value} (w : World) (h : bin P op t x y = some v) : (binOp op t x y).run P w = .ok v w := by
  unfold bin at h
  split at h
  · rename_i k a k' b
    cases op
    case shl =>
      simp only at h
      split at h
      · simp at h
      · injection h with h; subst h
        rename_i hb
        simp [binOp, Op.shift, hb, go_sem]
    case shr =>
      simp only at h
      split at h
      · simp at h
      · injection h with h; subst h
        rename_i hb
        simp [binOp, Op.shift, hb, go_sem]
    all_goals
      simp only [] at h
      by_cases hk : k = k'
      · subst hk
        rw [if_neg (by simp)] at h
        first
          | (injection h with h; subst h; simp [binOp, Op.intArith, Op.intBits, Op.intCmp]; done)
          | (split at h
             · simp at h
             · rename_i hb; injection h with h; subst h; simp [binOp, Op.intDiv, hb]; done)
          | (simp at h; done)
      · simp [hk] at h
  · split at h
    · injection h with h; subst h
      rename_i hu
      simp only [binOp]
      rw [bind_ok (equal_run (eqIn_bool hu))]
      rfl
    · injection h with h; subst h
      rename_i hu
      simp only [binOp]
      rw [bind_ok (equal_run (eqIn_bool hu))]
      rfl
    · simp at h
  · split at h
    · injection h with h; subst h
      rename_i hu
      simp only [binOp]
      rw [bind_ok (equal_run (eqIn_nil hu))]
      rfl
    · injection h with h; subst h
      rename_i hu
      simp only [binOp]
      rw [bind_ok (equal_run (eqIn_nil hu))]
      rfl
    · simp at h
  · split at h
    · injection h with h; subst h
      rename_i hu
      simp only [binOp]
      rw [bind_ok (equal_run (eqIn_nil2 hu))]
      rfl
    · injection h with h; subst h
      rename_i hu
      simp only [binOp]
      rw [bind_ok (equal_run (eqIn_nil2 hu))]
      rfl
    · simp at h
  · split at h
    · injection h with h; subst h; rfl
    · injection h with h; subst h; rfl
    · injection h with h; subst h; rfl
    · simp at h
  · simp at h
theorem guard_run {op : BinOp} {t : TypeId} {x y : Operand} {a b v : Value} (w : World) (h : bin P op t a b = some v) : (eqGuard op t x y a b).run P w = .ok () w := by
  unfold eqGuard
  cases op <;> try rfl
  all_goals
    unfold bin at h
    split at h <;> first | rfl | (simp at h)
end
end Go.Vy
