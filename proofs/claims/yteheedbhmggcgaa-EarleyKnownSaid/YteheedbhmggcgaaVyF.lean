/- Regions whose order is drawn where reading goes ahead and effects follow in the order of the text. -/
import Derived.Test.YteheedbhmggcgaaVyE
import Derived.StillTail
namespace Go.Vy
open Go Go.RowKit
set_option linter.unusedVariables false
set_option linter.unusedSimpArgs false

def noCall (o : Oper) : Bool := match o.op with | .call c => (match c.callee with | .builtin _ => true | _ => false) | _ => true
section
variable {P : Program} {n : Nat} {Q : Exit → (Nat → Value) → Hp → Prop} {f : Nat → Value} {H : Hp} {ty : TypeId}
theorem QBev_rq {op : Op} {K : Value → Prop} (hn : noCall ⟨none, op, ty, "", #[], none⟩ = true) (h : QBev P op f H K) : ∃ v, rq P op f H = some v ∧ K v := by
  have el : ∀ o : Option Value, optQ o K → ∃ v, o = some v ∧ K v := by
    intro o ho; cases o with
    | none => exact ho.elim
    | some v => exact ⟨v, rfl, ho⟩
  unfold QBev at h
  split at h
  · rename_i c
    split at h
    · rename_i x hc
      simp [noCall, hc] at hn
    · exact el _ h
  · exact el _ h
theorem wpStill_of_QOps {ops : Array Oper} {w : World} {Q' : Act → Prop} {K : (Nat → Value) → Prop} (m : Nat) (hq : ∀ a, a.defers = [] → a.tmps.size = m → K (slots a) → Q' a) :
    ∀ (l : List Oper) (a : Act), opsDst m l = true → l.all noCall = true → a.defers = [] → a.tmps.size = m → QOps P (ops.toList.map (·.dst)) w.heap l K (slots a) → wpStill P ops w Q' l a
  | [], a, _, _, h1, h2, h => hq a h1 h2 h
  | ⟨dst, op, ty, pos, after, g⟩ :: r, a, hd, hn, h1, h2, h => by
    simp only [opsDst, List.all_cons, Bool.and_eq_true] at hd
    simp only [List.all_cons, Bool.and_eq_true] at hn
    have hlt : ∀ t, dst = some t → t < a.tmps.size := by
      intro t ht; have := hd.1; rw [ht] at this; simpa [h2] using this
    have put_size : ∀ v, (a.put dst v).tmps.size = m := by
      intro v; cases dst <;> simp [Act.put, h2]
    have put_def : ∀ v, (a.put dst v).defers = [] := by
      intro v; cases dst <;> simp [Act.put, h1]
    unfold wpStill
    rw [wanted_eq]
    simp only [QOps, wantD_eq] at h
    cases hw : wantB ops.toList (slots a) g with
    | true =>
      rw [hw] at h
      simp only [if_true]
      obtain ⟨v, hv, hk⟩ := QBev_rq (ty := ty) (by simpa [noCall] using hn.1) h
      unfold Oper.still
      rw [execOp_bare, eval_eq, rq_run w hv]
      exact ⟨rfl, wpStill_of_QOps m hq r _ hd.2 hn.2 (put_def v) (put_size v) (by rw [slots_putO v hlt]; exact hk)⟩
    | false =>
      rw [hw] at h
      simp only [Bool.false_eq_true, if_false]
      exact wpStill_of_QOps m hq r _ hd.2 hn.2 (put_def _) (put_size _) (by rw [slots_putO _ hlt]; exact h)
theorem opsDst_take {m : Nat} {l : List Oper} (k : Nat) (h : opsDst m l = true) : opsDst m (l.take k) = true := by
  simp only [opsDst, List.all_eq_true] at h ⊢
  exact fun x hx => h x (List.mem_of_mem_take hx)
theorem opsDst_drop {m : Nat} {l : List Oper} (k : Nat) (h : opsDst m l = true) : opsDst m (l.drop k) = true := by
  simp only [opsDst, List.all_eq_true] at h ⊢
  exact fun x hx => h x (List.mem_of_mem_drop hx)
theorem W_chain {id m : Nat} {l : List Oper} (k : Nat) (hm : P.follows .mixedOrders = true) (hB : Region.lexTailB .any l.toArray k = true) (hn : (l.take k).all noCall = true)
    (h : QOps P (l.map (·.dst)) H (l.take k) (fun f => BOps P (l.map (·.dst)) (l.drop k) (Q .normal) f H) f) : W P m (.region id l.toArray true) Q f H := by
  intro hc a w h1 h2 h3 h4
  simp only [cok] at hc
  subst h3; subst h4
  refine wp_region_still_tail k hm hB ?_
  refine wpStill_of_QOps (w := { w with drawn := w.drawn + 1 }) (K := fun f => BOps P (l.map (·.dst)) (l.drop k) (Q .normal) f w.heap) m ?_ _ a (opsDst_take k hc) hn h1 h2 h
  intro a' k1 k2 k3
  exact wpList_of_AOps l.toArray w (l.drop k) a' _ (opsDst_drop k hc) k1 k2 ⟨rfl, rfl, rfl⟩ (AOps_of_BOps _ _ _ k3)
theorem W_chainK {id m : Nat} {l : List Oper} {y : Code} (k : Nat) (hm : P.follows .mixedOrders = true) (hB : Region.lexTailB .any l.toArray k = true) (hn : (l.take k).all noCall = true)
    (h : ∀ K : (Nat → Value) → Hp → Prop, (∀ f H, W P m y Q f H → K f H) → QOps P (l.map (·.dst)) H (l.take k) (fun f => BOps P (l.map (·.dst)) (l.drop k) K f H) f) : W P m (.seq (.region id l.toArray true) y) Q f H :=
  W_seq (W_chain k hm hB hn (h _ fun _ _ h => h))
end
end Go.Vy
