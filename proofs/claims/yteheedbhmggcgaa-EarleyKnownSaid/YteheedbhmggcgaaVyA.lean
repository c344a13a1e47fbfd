/- Regions, functions: the rules as they are used. -/
import Derived.Test.YteheedbhmggcgaaVy9
namespace Go.Vy
open Go Go.RowKit
set_option linter.unusedVariables false
set_option linter.unusedSimpArgs false

def wantD (ds : List (Option Tmp)) (f : Nat → Value) : Option (Nat × Bool) → Bool
  | none => true
  | some (j, want) => match ds[j]? with
    | some (some d) => match f d with | .bool b => b == want | _ => false
    | _ => false
theorem wantD_eq (ops : List Oper) (f : Nat → Value) (g : Option (Nat × Bool)) : wantD (ops.map (·.dst)) f g = wantB ops f g := by
  cases g with
  | none => rfl
  | some x =>
    obtain ⟨j, want⟩ := x
    simp only [wantD, wantB, List.getElem?_map]
    cases ops[j]? with
    | none => rfl
    | some o => simp only [Option.map_some, Option.bind_some]; cases o.dst <;> rfl
def BOps (P : Program) (ds : List (Option Tmp)) : List Oper → ((Nat → Value) → Hp → Prop) → (Nat → Value) → Hp → Prop
  | [], K, f, H => K f H
  | ⟨dst, op, ty, _, _, g⟩ :: r, K, f, H => match wantD ds f g with
    | true => Bev P op f H fun v H' => BOps P ds r K (updO f dst v) H'
    | false => BOps P ds r K (updO f dst undef) H

/-- What is behind an operation. -/
def Cont (P : Program) (ds : List (Option Tmp)) (r : List Oper) (K : (Nat → Value) → Hp → Prop) (f : Nat → Value) (dst : Option Tmp) (v : Value) (H : Hp) : Prop := BOps P ds r K (updO f dst v) H
theorem BOps_nil {P : Program} {ds : List (Option Tmp)} {K : (Nat → Value) → Hp → Prop} {f : Nat → Value} {H : Hp} : BOps P ds [] K f H = K f H := propext Iff.rfl
theorem BOps_cons {P : Program} {ds : List (Option Tmp)} {r : List Oper} {K : (Nat → Value) → Hp → Prop} {f : Nat → Value} {H : Hp} {dst : Option Tmp} {op : Op} {ty : TypeId} {pos : String} {after : Array Edge} {g : Option (Nat × Bool)} :
    BOps P ds (⟨dst, op, ty, pos, after, g⟩ :: r) K f H = if wantD ds f g = true then Bev P op f H (Cont P ds r K f dst) else Cont P ds r K f dst undef H := by
  simp only [BOps, Cont]
  cases wantD ds f g <;> rfl
theorem Cont_eq {P : Program} {ds : List (Option Tmp)} {r : List Oper} {K : (Nat → Value) → Hp → Prop} {f : Nat → Value} {H : Hp} {dst : Option Tmp} {v : Value} : Cont P ds r K f dst v H = BOps P ds r K (updO f dst v) H := propext Iff.rfl
section
variable {P : Program} {n : Nat} {Q : Exit → (Nat → Value) → Hp → Prop} {f : Nat → Value} {H : Hp}
theorem Aev_mono {op : Op} {ty : TypeId} {K K' : Value → Hp → Prop} (h : Aev P op ty f H K) (hk : ∀ v H, K v H → K' v H) : Aev P op ty f H K' := by
  intro w hw
  have h := h w hw
  revert h
  generalize (execOp (ev f) ⟨none, op, ty, "", #[], none⟩).run P w = r
  intro h
  cases r with
  | ok x w' =>
    cases x <;> simp only [] at h ⊢
    case value v => exact ⟨h.1, hk _ _ h.2⟩
    case skip => exact ⟨h.1, hk _ _ h.2⟩
    case enter F args => obtain ⟨hs, Q, hq, hc⟩ := h; exact ⟨hs, Q, fun v H q => hk _ _ (hq _ _ q), hc⟩
  | halt x w' => exact h
theorem AOps_of_BOps {ops : List Oper} {K : (Nat → Value) → Hp → Prop} : ∀ (l : List Oper) (f : Nat → Value) (H : Hp), BOps P (ops.map (·.dst)) l K f H → AOps P ops l K f H
  | [], f, H, h => h
  | ⟨dst, op, ty, pos, after, g⟩ :: r, f, H, h => by
    simp only [BOps, wantD_eq] at h
    simp only [AOps]
    cases hw : wantB ops f g with
    | true => rw [hw] at h; exact Aev_mono (Aev_of_Bev h) fun v H' hk => AOps_of_BOps r _ _ hk
    | false => rw [hw] at h; exact AOps_of_BOps r _ _ h
theorem W_reg {id : Nat} {l : List Oper} (h : BOps P (l.map (·.dst)) l (Q .normal) f H) : W P n (.region id l.toArray false) Q f H := W_region (AOps_of_BOps l f H h)
/-- A region ahead of more code. -/
theorem W_regK {id : Nat} {l : List Oper} {y : Code} (h : ∀ K : (Nat → Value) → Hp → Prop, (∀ f H, W P n y Q f H → K f H) → BOps P (l.map (·.dst)) l K f H) : W P n (.seq (.region id l.toArray false) y) Q f H :=
  W_seq (W_reg (h _ fun _ _ h => h))

def resOne (P : Program) (f : Nat → Value) (H : Hp) : ResultVar → Option Value
  | .tmp t => some (f t)
  | .cell a t => match f a with | .pointer (some p) => ld P H t p | _ => none
/-- A function's result. -/
def resV (P : Program) (rs : List ResultVar) (f : Nat → Value) (H : Hp) : Option Value :=
  (rs.mapM (resOne P f H)).map fun vs => match vs with | [v] => v | vs => .tuple vs.toArray
def retQ (P : Program) (fn : Func) (Q : Value → Hp → Prop) : Exit → (Nat → Value) → Hp → Prop
  | .normal, f, H | .ret, f, H => ∃ v, resV P fn.results.toList f H = some v ∧ Q v H
  | _, _, _ => False
def resSem (g : Nat → Value) (r : ResultVar) : Sem Value := match r with | .tmp t => pure (g t) | .cell a t => do loadVar t (← asAddr (g a))
theorem resOne_run {r : ResultVar} {g : Nat → Value} {v : Value} {w : World} (h : resOne P g w.heap r = some v) : (resSem g r).run P w = .ok v w := by
  cases r with
  | tmp t => simp only [resOne] at h; injection h with h; subst h; rfl
  | cell a t =>
    simp only [resOne] at h
    split at h
    · rename_i p hp
      simp only [resSem, hp]
      rw [bind_ok (show (asAddr (.pointer (some p))).run P w = .ok p w from rfl)]
      exact ld_run w h
    · simp at h
theorem mapM_run {g : Nat → Value} {w : World} : ∀ (rs : List ResultVar) (vs : List Value), rs.mapM (resOne P g w.heap) = some vs → (rs.mapM (resSem g)).run P w = .ok vs w
  | [], vs, h => by simp at h; subst h; rfl
  | r :: rs, vs, h => by
    simp only [List.mapM_cons, Option.bind_eq_bind, Option.pure_def] at h
    cases hr : resOne P g w.heap r with
    | none => simp [hr] at h
    | some v =>
      cases hrs : rs.mapM (resOne P g w.heap) with
      | none => simp [hr, hrs] at h
      | some l =>
        simp [hr, hrs] at h
        subst h
        rw [List.mapM_cons, bind_ok (resOne_run hr), bind_ok (mapM_run rs l hrs)]; rfl
theorem resV_run {fn : Func} {tmps : Array Value} {w : World} {v : Value} (h : resV P fn.results.toList (fun t => tmps.getD t undef) w.heap = some v) : (results fn tmps).run P w = .ok v w := by
  unfold resV at h
  generalize hg : (fun t => tmps.getD t undef) = g at h
  cases hm : fn.results.toList.mapM (resOne P g w.heap) with
  | none => simp [hm] at h
  | some vs =>
    simp only [hm, Option.map_some] at h; injection h with h
    have := mapM_run _ _ hm
    have ha : (fn.results.mapM (resSem g)).run P w = .ok vs.toArray w := by
      rw [Array.mapM_eq_mapM_toList, Sem.run_map, this]; rfl
    have e : results fn tmps = (do let vs ← fn.results.mapM (resSem g); pure (if h : vs.size = 1 then vs[0] else .tuple vs)) := by
      subst hg; rfl
    rw [e, bind_ok ha]
    match vs, h with
    | [], h => subst h; rfl
    | [x], h => subst h; rfl
    | x :: y :: r, h => subst h; simp [pure_run]
/-- A function, out of its body. -/
theorem calls_W {F : FuncId} {fn : Func} {c : Code} {args : List Value} {m : Nat} {Q : Value → Hp → Prop} (hcall : ∀ args w, (callFunc F args).run P w = .ok (.enter F args) w)
    (hf : P.funcs[F]? = some fn) (hb : fn.body = some c) (hm : fn.ntmps = m) (hk : cok m c = true) (ha : args.length ≤ m)
    (h : W P m c (retQ P fn Q) (argf args) H) : CallsV P F args.toArray H Q := by
  refine ⟨hcall, fun w hw => calls_of_wp hf hb ?_⟩
  subst hw
  have hs : slots (⟨args.toArray ++ Array.replicate (fn.ntmps - args.toArray.size) undef, []⟩ : Act) = argf args := by
    funext t
    have e : argf args t = args.getD t undef := by
      clear h ha
      induction args generalizing t with
      | nil => rfl
      | cons v l ih => cases t with
        | zero => rfl
        | succ t => simp only [argf, ih]; simp
    rw [e]
    simp only [slots, Array.getD_eq_getD_getElem?, Array.getElem?_append, Array.getElem?_replicate, List.getElem?_toArray, List.size_toArray, List.getD_eq_getElem?_getD]
    by_cases ht : t < args.length
    · rw [if_pos ht]
    · rw [if_neg ht, List.getElem?_eq_none (by omega)]; split <;> rfl
  refine wp_mono (h hk _ w rfl (by simp [hm]; omega) hs rfl) ?_
  rintro e a' w' ⟨h1, h2, h3, h4⟩
  cases e <;> simp only [retQ] at h4
  case normal => obtain ⟨v, hv, hq⟩ := h4; exact ⟨h1, v, resV_run hv, v, rfl, h3, hq⟩
  case ret => obtain ⟨v, hv, hq⟩ := h4; exact ⟨h1, v, resV_run hv, v, rfl, h3, hq⟩
end
end Go.Vy
