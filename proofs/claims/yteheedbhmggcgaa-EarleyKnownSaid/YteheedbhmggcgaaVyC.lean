/- Regions whose order is drawn: those that only read, with calls that leave the heap as it is. -/
import Derived.Test.YteheedbhmggcgaaVyB
namespace Go.Vy
open Go Go.RowKit
set_option linter.unusedVariables false
set_option linter.unusedSimpArgs false

/-- The operations that only read, maps and slices too. -/
def rq (P : Program) (op : Op) (f : Nat → Value) (H : Hp) : Option Value :=
  match op with
  | .lookup t x k ok => lkp P t (ev f x) (ev f k) ok H
  | .slice t x lo hi mx => slc P t (ev f x) (lo.map (ev f)) (hi.map (ev f)) (mx.map (ev f))
  | .build t ps => bldV P t (ps.toList.map fun x => (x.1, ev f x.2))
  | _ => rd P op f H
/-- A call that leaves the heap as it is. -/
def QCall (P : Program) (F : FuncId) (args : Array Value) (H : Hp) (K : Value → Prop) : Prop := ∃ v, CallsV P F args H (fun r H' => r = v ∧ H' = H) ∧ K v
def optQ (o : Option Value) (K : Value → Prop) : Prop := match o with | some v => K v | none => False
theorem optQ_some {v : Value} {K : Value → Prop} : optQ (some v) K = K v := propext Iff.rfl
def QBev (P : Program) (op : Op) (f : Nat → Value) (H : Hp) (K : Value → Prop) : Prop :=
  match op with
  | .call c => match c.callee with
    | .value x => match ev f x with
      | .func (.func F) a b => QCall P F (a ++ c.args.map (ev f) ++ b) H K
      | _ => False
    | _ => optQ (rq P op f H) K
  | _ => optQ (rq P op f H) K
def QOps (P : Program) (ds : List (Option Tmp)) (H : Hp) : List Oper → ((Nat → Value) → Prop) → (Nat → Value) → Prop
  | [], K, f => K f
  | ⟨dst, op, ty, _, _, g⟩ :: r, K, f => match wantD ds f g with
    | true => QBev P op f H fun v => QOps P ds H r K (updO f dst v)
    | false => QOps P ds H r K (updO f dst undef)
def QCont (P : Program) (ds : List (Option Tmp)) (H : Hp) (r : List Oper) (K : (Nat → Value) → Prop) (f : Nat → Value) (dst : Option Tmp) (v : Value) : Prop := QOps P ds H r K (updO f dst v)
theorem QOps_nil {P : Program} {ds : List (Option Tmp)} {K : (Nat → Value) → Prop} {f : Nat → Value} {H : Hp} : QOps P ds H [] K f = K f := propext Iff.rfl
theorem QOps_cons {P : Program} {ds : List (Option Tmp)} {r : List Oper} {K : (Nat → Value) → Prop} {f : Nat → Value} {H : Hp} {dst : Option Tmp} {op : Op} {ty : TypeId} {pos : String} {after : Array Edge} {g : Option (Nat × Bool)} :
    QOps P ds H (⟨dst, op, ty, pos, after, g⟩ :: r) K f = if wantD ds f g = true then QBev P op f H (QCont P ds H r K f dst) else QCont P ds H r K f dst undef := by
  simp only [QOps, QCont]
  cases wantD ds f g <;> rfl
theorem QCont_eq {P : Program} {ds : List (Option Tmp)} {r : List Oper} {K : (Nat → Value) → Prop} {f : Nat → Value} {H : Hp} {dst : Option Tmp} {v : Value} : QCont P ds H r K f dst v = QOps P ds H r K (updO f dst v) := propext Iff.rfl
section
variable {P : Program} {n : Nat} {Q : Exit → (Nat → Value) → Hp → Prop} {f : Nat → Value} {H : Hp} {ty : TypeId}
theorem rq_run {op : Op} {v : Value} (w : World) (h : rq P op f w.heap = some v) : (execOp (ev f) ⟨none, op, ty, "", #[], none⟩).run P w = .ok (.value v) w := by
  cases op <;> simp only [rq] at h <;> try (exact rd_run w h)
  case lookup t x k ok => exact lkp_run w h
  case slice t x lo hi mx => simp only [execOp]; exact value_ok (slc_run w h)
  case build t ps =>
    unfold bldV at h
    split at h
    · rename_i sizes hp hz
      cases hb : bld sizes (zc P t) (ps.toList.map fun x => (x.1, ev f x.2)) with
      | none => simp [hb] at h
      | some l =>
        simp only [hb, Option.map_some] at h; injection h with h; subst h
        simp only [execOp]
        exact value_ok (build_run w hp hz hb)
    · simp at h
theorem quiet_of_QBev {o : Oper} {a : Act} {w0 : World} {K : Value → Prop} {next : Act → Prop} (h : QBev P o.op (slots a) H K) (hk : ∀ v, K v → next (a.put o.dst v)) :
    o.quiet P a (fun w' => w'.heap = H ∧ Same w0 w') next := by
  have key : ∀ v, rq P o.op (slots a) H = some v → (∀ w, (w.heap = H ∧ Same w0 w) → o.quietAt P a (fun w' => w'.heap = H ∧ Same w0 w') w v) := by
    intro v hv w hw
    unfold Oper.quietAt
    rw [execOp_bare, eval_eq, rq_run w (by rw [hw.1]; exact hv)]
    exact ⟨rfl, rfl⟩
  unfold QBev at h
  split at h
  · rename_i c ho
    split at h
    · rename_i x hc
      split at h
      · rename_i F b d hx
        obtain ⟨v, hcall, hK⟩ := h
        refine ⟨v, fun w hw => ?_, hk v hK⟩
        unfold Oper.quietAt
        have : (execOp (ev (slots a)) ⟨none, .call c, o.type, "", #[], none⟩).run P w = .ok (.enter F (b ++ c.args.map (ev (slots a)) ++ d)) w := by
          simp only [execOp, resolve, hc, hx]
          show (callFunc F (b ++ c.args.map (ev (slots a)) ++ d)).run P w = _
          exact hcall.1 _ w
        rw [execOp_bare, eval_eq, ho, this]
        refine ⟨rfl, (hcall.2 w hw.1).mono ?_⟩
        rintro e w2 ⟨v', rfl, hs, rfl, hh⟩
        exact ⟨rfl, hh, hw.2.trans hs⟩
      · exact h.elim
    · unfold optQ at h
      split at h
      · rename_i v hv; exact ⟨v, key v hv, hk v h⟩
      · exact h.elim
  · unfold optQ at h
    split at h
    · rename_i v hv; exact ⟨v, key v hv, hk v h⟩
    · exact h.elim
theorem wpQuiet_of_QOps {ops : Array Oper} {w0 : World} {Q' : Act → Prop} {K : (Nat → Value) → Prop} (m : Nat) (hq : ∀ a, a.defers = [] → a.tmps.size = m → K (slots a) → Q' a) :
    ∀ (l : List Oper) (a : Act), opsDst m l = true → a.defers = [] → a.tmps.size = m → QOps P (ops.toList.map (·.dst)) H l K (slots a) → wpQuiet P ops (fun w' => w'.heap = H ∧ Same w0 w') Q' l a
  | [], a, _, h1, h2, h => hq a h1 h2 h
  | ⟨dst, op, ty, pos, after, g⟩ :: r, a, hd, h1, h2, h => by
    simp only [opsDst, List.all_cons, Bool.and_eq_true] at hd
    have hlt : ∀ t, dst = some t → t < a.tmps.size := by
      intro t ht; have := hd.1; rw [ht] at this; simpa [h2] using this
    have put_size : ∀ v, (a.put dst v).tmps.size = m := by
      intro v; cases dst <;> simp [Act.put, h2]
    have put_def : ∀ v, (a.put dst v).defers = [] := by
      intro v; cases dst <;> simp [Act.put, h1]
    unfold wpQuiet
    rw [wanted_eq]
    simp only [QOps, wantD_eq] at h
    cases hw : wantB ops.toList (slots a) g with
    | true =>
      rw [hw] at h
      refine quiet_of_QBev (o := ⟨dst, op, ty, pos, after, g⟩) h ?_
      intro v hk
      exact wpQuiet_of_QOps m hq r _ hd.2 (put_def v) (put_size v) (by rw [slots_putO v hlt]; exact hk)
    | false =>
      rw [hw] at h
      exact wpQuiet_of_QOps m hq r _ hd.2 (put_def _) (put_size _) (by rw [slots_putO _ hlt]; exact h)
theorem W_draw {id : Nat} {l : List Oper} (hm : P.follows .mixedOrders = true) (hB : Region.lexB .any l.toArray = true) (h : QOps P (l.map (·.dst)) H l (fun f => Q .normal f H) f) : W P n (.region id l.toArray true) Q f H := by
  intro hc a w h1 h2 h3 h4
  simp only [cok] at hc
  subst h3; subst h4
  refine wp_region_quiet (C := fun w' => w'.heap = w.heap ∧ Same w w') hm hB ⟨rfl, rfl, rfl, rfl⟩ ?_
  refine wpQuiet_of_QOps n (K := fun f => Q .normal f w.heap) ?_ l a hc h1 h2 h
  intro a' k1 k2 k3 w' hw'
  exact ⟨k1, k2, hw'.2, by rw [hw'.1]; exact k3⟩
theorem W_drawK {id : Nat} {l : List Oper} {y : Code} (hm : P.follows .mixedOrders = true) (hB : Region.lexB .any l.toArray = true)
    (h : ∀ K : (Nat → Value) → Prop, (∀ f, W P n y Q f H → K f) → QOps P (l.map (·.dst)) H l K f) : W P n (.seq (.region id l.toArray true) y) Q f H :=
  W_seq (W_draw hm hB (h (fun f => W P n y Q f H) fun _ h => h))
end
end Go.Vy
