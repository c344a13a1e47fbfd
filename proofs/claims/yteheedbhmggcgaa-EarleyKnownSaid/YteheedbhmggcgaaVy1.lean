/- A small calculus of weakest preconditions over heaps (the world's other parts are kept): slots as a function, the heap as an array of blocks. -/
import Derived.Deep.Quiet
import Derived.Tactics
import Derived.Below
import Derived.KernelRfl
namespace Go.Vy
open Go Go.RowKit
set_option linter.unusedVariables false

abbrev Hp := Array Obj

/-- The parts of the world beside the heap and the count of draws are the same. -/
structure Same (w w' : World) : Prop where
  os : w'.os = w.os
  tape : w'.tape = w.tape
  output : w'.output = w.output
theorem Same.refl (w : World) : Same w w := ⟨rfl, rfl, rfl⟩
theorem Same.trans {a b c : World} (h : Same a b) (k : Same b c) : Same a c := ⟨k.os.trans h.os, k.tape.trans h.tape, k.output.trans h.output⟩

def upd (f : Nat → Value) (d : Nat) (v : Value) (t : Nat) : Value := if t = d then v else f t
def updO (f : Nat → Value) : Option Tmp → Value → (Nat → Value)
  | some d, v => upd f d v
  | none, _ => f
def slots (a : Act) : Nat → Value := fun t => a.tmps.getD t undef
def ev (f : Nat → Value) : Operand → Value
  | .tmp t => f t
  | .const v => v
  | .global g => .pointer (some ⟨g, 0, none⟩)
  | .func F => .func (.func F) #[] #[]
theorem eval_eq (a : Act) : a.eval = ev (slots a) := by funext x; cases x <;> rfl
theorem slots_put {a : Act} {d : Nat} (v : Value) (h : d < a.tmps.size) : slots (a.put (some d) v) = upd (slots a) d v := by
  funext t
  unfold slots upd
  simp only [Act.put, Array.getD_eq_getD_getElem?, Array.getElem?_setIfInBounds]
  by_cases e : t = d
  · subst e; simp [h]
  · rw [if_neg (fun x => e x.symm), if_neg e]
theorem slots_putO {a : Act} {d : Option Nat} (v : Value) (h : ∀ t, d = some t → t < a.tmps.size) : slots (a.put d v) = updO (slots a) d v := by
  cases d with
  | none => rfl
  | some d => exact slots_put v (h d rfl)

def opsDst (n : Nat) (l : List Oper) : Bool := l.all fun o => match o.dst with | some d => decide (d < n) | none => true
/-- Every slot that is written lies in the frame. -/
def cok (n : Nat) : Code → Bool
  | .region _ ops _ => opsDst n ops.toList
  | .seq a b | .cond _ a b => cok n a && cok n b
  | .block _ b | .loop b | .scope b => cok n b
  | .rangeFunc _ _ a b => cok n a && cok n b
  | _ => true

def lift (n : Nat) (w0 : World) (Q : Exit → (Nat → Value) → Hp → Prop) : Exit → Act → World → Prop :=
  fun e a w => a.defers = [] ∧ a.tmps.size = n ∧ Same w0 w ∧ Q e (slots a) w.heap
def W (P : Program) (n : Nat) (c : Code) (Q : Exit → (Nat → Value) → Hp → Prop) (f : Nat → Value) (H : Hp) : Prop :=
  cok n c = true → ∀ (a : Act) (w : World), a.defers = [] → a.tmps.size = n → slots a = f → w.heap = H → c.wp P (lift n w Q) a w

theorem lift_same {n : Nat} {w w' : World} {Q : Exit → (Nat → Value) → Hp → Prop} (h : Same w w') {e : Exit} {a : Act} {w2 : World} (k : lift n w' Q e a w2) : lift n w Q e a w2 :=
  ⟨k.1, k.2.1, h.trans k.2.2.1, k.2.2.2⟩

section
variable {P : Program} {n : Nat} {Q : Exit → (Nat → Value) → Hp → Prop} {f : Nat → Value} {H : Hp}
def thenQ (next : (Nat → Value) → Hp → Prop) (Q : Exit → (Nat → Value) → Hp → Prop) : Exit → (Nat → Value) → Hp → Prop
  | .normal, f, H => next f H
  | e, f, H => Q e f H
theorem W_mono {c : Code} {Q' : Exit → (Nat → Value) → Hp → Prop} (h : W P n c Q f H) (hq : ∀ e f H, Q e f H → Q' e f H) : W P n c Q' f H :=
  fun hc a w h1 h2 h3 h4 => wp_mono (h hc a w h1 h2 h3 h4) fun _ _ _ ⟨k1, k2, k3, k4⟩ => ⟨k1, k2, k3, hq _ _ _ k4⟩
theorem W_seq {x y : Code} (h : W P n x (thenQ (W P n y Q) Q) f H) : W P n (.seq x y) Q f H := by
  intro hc a w h1 h2 h3 h4
  simp only [cok, Bool.and_eq_true] at hc
  refine wp_seq (wp_mono (h hc.1 a w h1 h2 h3 h4) ?_)
  rintro e a' w' ⟨k1, k2, k3, k4⟩
  cases e with
  | normal => exact wp_mono (k4 hc.2 a' w' k1 k2 rfl rfl) fun _ _ _ => lift_same k3
  | exit id => exact ⟨k1, k2, k3, k4⟩
  | goto l => exact ⟨k1, k2, k3, k4⟩
  | ret => exact ⟨k1, k2, k3, k4⟩
  | panic ch => exact ⟨k1, k2, k3, k4⟩
  | outgrown => exact ⟨k1, k2, k3, k4⟩
theorem W_seqK {x y : Code} (h : ∀ K : (Nat → Value) → Hp → Prop, (∀ f H, W P n y Q f H → K f H) → W P n x (thenQ K Q) f H) : W P n (.seq x y) Q f H :=
  W_seq (h _ fun _ _ h => h)
theorem W_cond {c : Operand} {x y : Code} {t : Bool} (hb : ev f c = .bool t) (h1 : t = true → W P n x Q f H) (h2 : t = false → W P n y Q f H) : W P n (.cond c x y) Q f H := by
  intro hc a w g1 g2 g3 g4
  simp only [cok, Bool.and_eq_true] at hc
  refine wp_cond_split (t := t) (by rw [eval_eq, g3]; exact hb) (fun ht => h1 ht hc.1 a w g1 g2 g3 g4) (fun ht => h2 ht hc.2 a w g1 g2 g3 g4)
def blockQ (id : Nat) (Q : Exit → (Nat → Value) → Hp → Prop) : Exit → (Nat → Value) → Hp → Prop
  | .exit id', f, H => if id' = id then Q .normal f H else Q (.exit id') f H
  | e, f, H => Q e f H
theorem W_block {id : Nat} {c : Code} (h : W P n c (blockQ id Q) f H) : W P n (.block id c) Q f H := by
  intro hc a w h1 h2 h3 h4
  refine wp_block (wp_mono (h hc a w h1 h2 h3 h4) ?_)
  rintro e a' w' ⟨k1, k2, k3, k4⟩
  cases e with
  | exit id' =>
    simp only [blockQ] at k4
    simp only [Exit.inBlock]
    split
    · rename_i e; rw [if_pos e] at k4; exact ⟨k1, k2, k3, k4⟩
    · rename_i e; rw [if_neg e] at k4; exact ⟨k1, k2, k3, k4⟩
  | normal => exact ⟨k1, k2, k3, k4⟩
  | goto l => exact ⟨k1, k2, k3, k4⟩
  | ret => exact ⟨k1, k2, k3, k4⟩
  | panic ch => exact ⟨k1, k2, k3, k4⟩
  | outgrown => exact ⟨k1, k2, k3, k4⟩
theorem W_skip (h : Q .normal f H) : W P n .skip Q f H := fun _ a w h1 h2 h3 h4 => wp_skip ⟨h1, h2, .refl _, by rw [h3, h4]; exact h⟩
theorem W_label {l : Nat} (h : Q .normal f H) : W P n (.label l) Q f H := fun _ a w h1 h2 h3 h4 => wp_label ⟨h1, h2, .refl _, by rw [h3, h4]; exact h⟩
theorem W_exit {id : Nat} (h : Q (.exit id) f H) : W P n (.exit id) Q f H := fun _ a w h1 h2 h3 h4 => wp_exit ⟨h1, h2, .refl _, by rw [h3, h4]; exact h⟩
theorem W_goto {l : Nat} (h : Q (.goto l) f H) : W P n (.goto l) Q f H := fun _ a w h1 h2 h3 h4 => wp_goto ⟨h1, h2, .refl _, by rw [h3, h4]; exact h⟩
theorem W_ret (h : Q .ret f H) : W P n .ret Q f H := fun _ a w h1 h2 h3 h4 => wp_ret ⟨h1, h2, .refl _, by rw [h3, h4]; exact h⟩
/-- A loop: 'I k' holds at each round's head, and k goes down. -/
theorem W_loop {c : Code} (I : Nat → (Nat → Value) → Hp → Prop) (k : Nat) (h0 : I k f H)
    (round : ∀ k f H, I k f H → W P n c (thenQ (fun f' H' => ∃ j, j < k ∧ I j f' H') Q) f H) : W P n (.loop c) Q f H := by
  intro hc a w h1 h2 h3 h4
  classical
  let J : Act → World → Prop := fun a' w' => a'.defers = [] ∧ a'.tmps.size = n ∧ Same w w' ∧ ∃ k, I k (slots a') w'.heap
  let M : Act → World → Nat := fun a' w' => if h : ∃ k, I k (slots a') w'.heap then (Classical.choose (p := fun k => I k (slots a') w'.heap ∧ ∀ j, I j (slots a') w'.heap → k ≤ j) (by
    obtain ⟨k, hk⟩ := h
    induction k using Nat.strongRecOn with
    | _ k ih =>
      by_cases e : ∃ j, j < k ∧ I j (slots a') w'.heap
      · obtain ⟨j, hj, hI⟩ := e; exact ih j hj hI
      · exact ⟨k, hk, fun j hj => Nat.le_of_not_lt fun hl => e ⟨j, hl, hj⟩⟩)) else 0
  refine wp_loop J M ⟨h1, h2, .refl _, k, by rw [h3, h4]; exact h0⟩ ?_
  rintro a' w' ⟨k1, k2, k3, hex⟩
  have hM : I (M a' w') (slots a') w'.heap := by
    simp only [M, dif_pos hex]
    exact (Classical.choose_spec (p := fun k => I k (slots a') w'.heap ∧ ∀ j, I j (slots a') w'.heap → k ≤ j) _).1
  refine wp_mono (round _ _ _ hM hc a' w' k1 k2 rfl rfl) ?_
  rintro e a2 w2 ⟨q1, q2, q3, q4⟩
  cases e with
  | normal =>
    obtain ⟨j, hj, hI⟩ := q4
    refine ⟨⟨q1, q2, k3.trans q3, j, hI⟩, Nat.lt_of_le_of_lt ?_ hj⟩
    have hex2 : ∃ k, I k (slots a2) w2.heap := ⟨j, hI⟩
    simp only [M, dif_pos hex2]
    exact (Classical.choose_spec (p := fun k => I k (slots a2) w2.heap ∧ ∀ j, I j (slots a2) w2.heap → k ≤ j) _).2 j hI
  | exit id => exact ⟨q1, q2, k3.trans q3, q4⟩
  | goto l => exact ⟨q1, q2, k3.trans q3, q4⟩
  | ret => exact ⟨q1, q2, k3.trans q3, q4⟩
  | panic ch => exact ⟨q1, q2, k3.trans q3, q4⟩
  | outgrown => exact ⟨q1, q2, k3.trans q3, q4⟩
end

/-- A call returns a value, and the heap is then such. -/
def CallsV (P : Program) (F : FuncId) (args : Array Value) (H : Hp) (Q : Value → Hp → Prop) : Prop :=
  (∀ args w, (callFunc F args).run P w = .ok (.enter F args) w) ∧
  ∀ w : World, w.heap = H → Calls P F args w fun e w' => ∃ v, e = .returned v ∧ Same w w' ∧ Q v w'.heap
theorem CallsV.mono {P : Program} {F : FuncId} {args : Array Value} {H : Hp} {Q Q' : Value → Hp → Prop} (h : CallsV P F args H Q) (hq : ∀ v H, Q v H → Q' v H) : CallsV P F args H Q' :=
  ⟨h.1, fun w hw => (h.2 w hw).mono fun _ _ ⟨v, e, s, q⟩ => ⟨v, e, s, hq _ _ q⟩⟩

/-! ### One operation -/
/-- What an operation comes to: its value, and the heap. -/
def Aev (P : Program) (op : Op) (ty : TypeId) (f : Nat → Value) (H : Hp) (K : Value → Hp → Prop) : Prop :=
  ∀ w : World, w.heap = H →
  match (execOp (ev f) ⟨none, op, ty, "", #[], none⟩).run P w with
  | .ok (.value v) w' => Same w w' ∧ K v w'.heap
  | .ok .skip w' => Same w w' ∧ K undef w'.heap
  | .ok (.enter F args) w' => Same w w' ∧ ∃ Q, (∀ v H, Q v H → K v H) ∧ CallsV P F args w'.heap Q
  | _ => False
theorem execOp_bare (ρ : Operand → Value) (o : Oper) : execOp ρ o = execOp ρ ⟨none, o.op, o.type, "", #[], none⟩ := by
  obtain ⟨dst, op, type, pos, after, guard⟩ := o
  cases op <;> rfl
theorem wp_of_Aev {P : Program} {o : Oper} {a : Act} {w : World} {K : Value → Hp → Prop} {K' : Act → World → Prop} {Q' : Exit → Act → World → Prop}
    (h : Aev P o.op o.type (slots a) w.heap K) (hk : ∀ v w', Same w w' → K v w'.heap → K' (a.put o.dst v) w') : o.wp P a w K' Q' := by
  have h := h w rfl
  unfold Oper.wp
  rw [execOp_bare, eval_eq]
  generalize (execOp (ev (slots a)) ⟨none, o.op, o.type, "", #[], none⟩).run P w = r at *
  cases r with
  | ok x w' =>
    cases x <;> simp only [] at h <;> simp only [Oper.upon]
    case value v => exact hk _ _ h.1 h.2
    case skip => exact hk _ _ h.1 h.2
    case enter F args =>
      obtain ⟨hs, Q, hq, hc⟩ := h
      refine (hc.2 w' rfl).mono ?_
      rintro e w2 ⟨v, rfl, s2, q⟩
      exact hk _ _ (hs.trans s2) (hq _ _ q)
  | halt x w' => exact h.elim

/-! ### A list of operations -/
def wantB (ops : List Oper) (f : Nat → Value) : Option (Nat × Bool) → Bool
  | none => true
  | some (j, want) => match (ops[j]?).bind (·.dst) with
    | some d => match f d with | .bool b => b == want | _ => false
    | none => false
def AOps (P : Program) (ops : List Oper) : List Oper → ((Nat → Value) → Hp → Prop) → (Nat → Value) → Hp → Prop
  | [], K, f, H => K f H
  | o :: r, K, f, H => match wantB ops f o.guard with
    | true => Aev P o.op o.type f H fun v H' => AOps P ops r K (updO f o.dst v) H'
    | false => AOps P ops r K (updO f o.dst undef) H
theorem wanted_eq (ops : Array Oper) (o : Oper) (a : Act) : Region.wanted o (yielded ops a.tmps) = wantB ops.toList (slots a) o.guard := by
  unfold Region.wanted wantB
  cases o.guard with
  | none => rfl
  | some g =>
    obtain ⟨j, want⟩ := g
    simp only [yielded, Array.getElem?_toList]
    cases (ops[j]?).bind (·.dst) with
    | none => simp
    | some d =>
      simp only [Option.bind_some, slots, Array.getD_eq_getD_getElem?]
      cases a.tmps[d]? with
      | none => simp [undef]
      | some v => cases v <;> simp
theorem wpList_of_AOps {P : Program} {n : Nat} {Q : Exit → (Nat → Value) → Hp → Prop} (ops : Array Oper) (w0 : World) (l : List Oper) :
    ∀ (a : Act) (w : World), opsDst n l = true → a.defers = [] → a.tmps.size = n → Same w0 w → AOps P ops.toList l (Q .normal) (slots a) w.heap → wpList P ops (lift n w0 Q) l a w := by
  induction l with
  | nil => intro a w _ h1 h2 h3 h; exact ⟨h1, h2, h3, h⟩
  | cons o r ih =>
    intro a w hd h1 h2 h3 h
    simp only [opsDst, List.all_cons, Bool.and_eq_true] at hd
    have hlt : ∀ t, o.dst = some t → t < a.tmps.size := by
      intro t ht; have := hd.1; rw [ht] at this; simpa [h2] using this
    have put_size : ∀ v, (a.put o.dst v).tmps.size = n := by
      intro v; cases o.dst <;> simp [Act.put, h2]
    have put_def : ∀ v, (a.put o.dst v).defers = [] := by
      intro v; cases o.dst <;> simp [Act.put, h1]
    unfold wpList
    rw [wanted_eq]
    simp only [AOps] at h
    cases hw : wantB ops.toList (slots a) o.guard with
    | true =>
      rw [hw] at h
      refine .inl (wp_of_Aev h ?_)
      intro v w' hs hk
      exact ih _ _ hd.2 (put_def v) (put_size v) (h3.trans hs) (by rw [slots_putO v hlt]; exact hk)
    | false =>
      rw [hw] at h
      exact ih _ _ hd.2 (put_def _) (put_size _) h3 (by rw [slots_putO _ hlt]; exact h)
theorem W_region {P : Program} {n : Nat} {Q : Exit → (Nat → Value) → Hp → Prop} {f : Nat → Value} {H : Hp} {id : Nat} {l : List Oper} (h : AOps P l l (Q .normal) f H) :
    W P n (.region id l.toArray false) Q f H := by
  intro hc a w h1 h2 h3 h4
  refine wp_region_list ?_
  simp only [cok] at hc
  subst h3; subst h4
  exact wpList_of_AOps l.toArray w _ a w hc h1 h2 (.refl _) h

/-! ### A function -/
def argf : List Value → Nat → Value
  | [], _ => undef
  | v :: _, 0 => v
  | _ :: l, t + 1 => argf l t
end Go.Vy
