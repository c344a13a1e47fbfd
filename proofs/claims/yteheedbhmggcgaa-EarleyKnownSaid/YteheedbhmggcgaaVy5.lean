/- Operations that make or write memory. -/
import Derived.Test.YteheedbhmggcgaaVy4
namespace Go.Vy
open Go Go.RowKit
set_option linter.unusedVariables false
set_option linter.unusedSimpArgs false
/-- A row of variables. -/
def row (E : TypeId) (l : List Value) : Obj := .cells l.toArray E (0, 0)
/-- So many zeros, cell by cell. -/
def rep (m : Nat) (z : List Value) : List Value := (Builtin.zeroCells z.toArray m).toList
theorem rep_length (m : Nat) (z : List Value) : (rep m z).length = m * z.length := by simp [rep, Builtin.zeroCells]
theorem rep_one (m : Nat) (v : Value) : rep m [v] = List.replicate m v := by
  apply List.ext_getElem?
  intro i
  simp only [rep, Builtin.zeroCells, List.getElem?_replicate]
  by_cases h : i < m
  · simp [h, Nat.mod_one]
  · simp [h]
/-- A slice type's element: the type, its cells, its bytes. -/
def slT (P : Program) (t : TypeId) : Option (TypeId × Nat × Nat) :=
  match P.underlying t with
  | some (.slice e) => (P.info? e).map fun i => (e, i.size, i.bytes)
  | _ => none
def hasZero (P : Program) (t : TypeId) : Bool := ((P.info? t).bind (·.zero)).isSome
def cellsOfSl (H : Hp) (sz : Nat) : Value → Option (Nat × List Value)
  | .slice none n _ => some (n, [])
  | .slice (some ⟨b, o, none⟩) n _ => match H[b]? with
    | some (.cells c _ _) => if o + n * sz ≤ c.size then some (n, (c.toList.drop o).take (n * sz)) else if n * sz = 0 then some (n, []) else none
    | _ => if n * sz = 0 then some (n, []) else none
  | .slice (some ⟨_, _, some _⟩) n _ => if n * sz = 0 then some (n, []) else none
  | _ => none
/-- 'append(s, x...)'. -/
def appK (P : Program) (t : TypeId) (s x : Value) (H : Hp) (K : Value → Hp → Prop) : Prop :=
  match slT P t, s with
  | some (e, sz, by_), .slice base n cap =>
    ∃ k ys, cellsOfSl H sz x = some (k, ys) ∧
    (n + k ≤ cap → match base with
      | none => ys = [] ∧ K (.slice none (n + k) cap) H
      | some ⟨b, o, none⟩ => ∃ c E, H[b]? = some (.cells c E (0, 0)) ∧ o + (n + k) * sz ≤ c.size ∧ (∀ v ∈ ys, v.oneCell' = true) ∧
          K (.slice (some ⟨b, o, none⟩) (n + k) cap) (H.setIfInBounds b (.cells (ow c.toList (o + n * sz) ys).toArray E (0, 0)))
      | _ => False) ∧
    (cap < n + k → Builtin.nextslicecap (n + k) cap * by_ ≤ 2 ^ 48 ∧ n + k ≤ 2 ^ 48 ∧ hasZero P e = true ∧ ∃ xs, cellsOfSl H sz (.slice base n cap) = some (n, xs) ∧
      ∀ nc, n + k ≤ nc → K (.slice (some ⟨H.size, 0, none⟩) (n + k) nc) (H.push (row e (xs ++ ys ++ rep (nc - (n + k)) (zc P e)))))
  | _, _ => False

section
variable {P : Program} {f : Nat → Value} {H : Hp} {K : Value → Hp → Prop} {ty : TypeId} {op : Op}
theorem Aev_value {v : Value} {H' : Hp} (h : ∀ w : World, w.heap = H → ∃ w', (execOp (ev f) ⟨none, op, ty, "", #[], none⟩).run P w = .ok (.value v) w' ∧ Same w w' ∧ w'.heap = H') (hk : K v H') : Aev P op ty f H K := by
  intro w hw
  obtain ⟨w', h1, h2, h3⟩ := h w hw
  rw [h1]; exact ⟨h2, by rw [h3]; exact hk⟩
theorem Aev_rd {v : Value} (h : rd P op f H = some v) (hk : K v H) : Aev P op ty f H K :=
  Aev_value (fun w hw => ⟨w, rd_run w (by rw [hw]; exact h), .refl _, hw⟩) hk
theorem zero_run {e : TypeId} (h : hasZero P e = true) (w : World) : ∃ z, (zeroValue e).run P w = .ok z w ∧ zc P e = z.cells.toList := by
  unfold hasZero at h
  cases hi : P.info? e with
  | none => simp [hi] at h
  | some i =>
    cases hz : i.zero with
    | none => simp [hi, hz] at h
    | some z =>
      refine ⟨z, ?_, by simp [zc, hi, hz]⟩
      unfold zeroValue
      rw [bind_ok (typeInfo_run hi w), hz]; rfl
theorem newRow_run (e : TypeId) (c : Array Value) (w : World) : (newRow e c).run P w = .ok ⟨w.heap.size, 0, none⟩ { w with heap := w.heap.push (.cells c e) } := rfl
theorem value_ok' {s : Sem Value} {v : Value} {w w' : World} (h : s.run P w = .ok v w') : (do pure (Next.value (← s)) : Sem Next).run P w = .ok (.value v) w' := by
  rw [bind_ok h]; rfl
theorem Aev_alloc {e : TypeId} (h : hasZero P e = true) (hk : K (.pointer (some ⟨H.size, 0, none⟩)) (H.push (row e (zc P e)))) : Aev P (.alloc e) ty f H K := by
  refine Aev_value (fun w hw => ?_) hk
  obtain ⟨z, hz, hc⟩ := zero_run h w
  refine ⟨{ w with heap := w.heap.push (.cells z.cells e) }, ?_, ⟨rfl, rfl, rfl⟩, by simp [hw, row, hc]⟩
  simp only [execOp]
  refine value_ok' ?_
  unfold Instr.alloc
  rw [bind_ok hz]
  show (do pure (Value.pointer (some (← newVar e z))) : Sem Value).run P w = _
  rw [bind_ok (show (newVar e z).run P w = _ from newRow_run e z.cells w), ← hw]; rfl
theorem Aev_box {e : TypeId} {x : Operand} (hk : K (.pointer (some ⟨H.size, 0, none⟩)) (H.push (row e (ev f x).cells.toList))) : Aev P (.box e x) ty f H K := by
  refine Aev_value (fun w hw => ?_) hk
  refine ⟨{ w with heap := w.heap.push (.cells (ev f x).cells e) }, ?_, ⟨rfl, rfl, rfl⟩, by simp [hw, row]⟩
  simp only [execOp]
  refine value_ok' ?_
  unfold Instr.box
  rw [bind_ok (show (newVar e (ev f x)).run P w = _ from newRow_run e (ev f x).cells w), ← hw]; rfl
theorem Aev_store {t : TypeId} {a x : Operand} {p : Addr} {H' : Hp} (ha : ev f a = .pointer (some p)) (h : st P H t p (ev f x) = some H') (hk : K undef H') : Aev P (.store t a x) ty f H K := by
  intro w hw
  subst hw
  have : (execOp (ev f) ⟨none, .store t a x, ty, "", #[], none⟩).run P w = .ok .skip { w with heap := H' } := by
    simp only [execOp, ha]
    show (Instr.storeAt t (.pointer (some p)) (ev f x) >>= fun _ => pure Next.skip).run P w = _
    rw [bind_ok (show (Instr.storeAt t (.pointer (some p)) (ev f x)).run P w = .ok () { w with heap := H' } from by
      unfold Instr.storeAt
      rw [bind_ok (show (Instr.sureAddr (.pointer (some p))).run P w = .ok p w from rfl)]
      exact st_run w h)]
    rfl
  rw [this]
  exact ⟨⟨rfl, rfl, rfl⟩, hk⟩
theorem Aev_makeMap {t : TypeId} (hk : K (.map (some H.size)) (H.push (.map #[] 0))) : Aev P (.makeMap t none) ty f H K := by
  refine Aev_value (fun w hw => ⟨{ w with heap := w.heap.push (.map #[] 0) }, ?_, ⟨rfl, rfl, rfl⟩, by simp [hw]⟩) hk
  subst hw; rfl
theorem slT_spec {t e : TypeId} {sz by_ : Nat} (h : slT P t = some (e, sz, by_)) : P.underlying t = some (.slice e) ∧ ∃ i, P.info? e = some i ∧ i.size = sz ∧ i.bytes = by_ := by
  unfold slT at h
  split at h
  · rename_i e' hu
    cases hi : P.info? e' with
    | none => simp [hi] at h
    | some i => simp [hi] at h; obtain ⟨rfl, rfl, rfl⟩ := h; exact ⟨hu, i, hi, rfl, rfl⟩
  · simp at h
theorem wrap64_id {n : Int} (h1 : -9223372036854775808 ≤ n) (h2 : n ≤ 9223372036854775807) : IntKind.i64.wrap n = n := by
  unfold IntKind.wrap IntKind.bits IntKind.signed
  simp only [Bool.true_and, decide_eq_true_eq]
  split <;> omega
theorem askRoom_run (n : Nat) (w : World) : (askRoom n).run P w = .ok () w := by
  unfold askRoom; split <;> rfl
theorem zsize {e : TypeId} {z : Value} (h : zc P e = z.cells.toList) : z.cells.size = (zc P e).length := by rw [h]; simp
theorem Aev_makeSlice {t e : TypeId} {l c : Operand} {n m : Int} {sz by_ : Nat} (hl : ev f l = .int .i64 n) (hc : ev f c = .int .i64 m) (ht : slT P t = some (e, sz, by_))
    (h0 : 0 ≤ n) (h1 : n ≤ m) (h2 : m * by_ ≤ 2 ^ 48) (h3 : m ≤ 2 ^ 48) (hz : hasZero P e = true) (hsz : (zc P e).length = sz)
    (hk : K (.slice (some ⟨H.size, 0, none⟩) n.toNat m.toNat) (H.push (row e (rep m.toNat (zc P e))))) : Aev P (.makeSlice t l c) ty f H K := by
  obtain ⟨hu, i, hi, rfl, rfl⟩ := slT_spec ht
  refine Aev_value (fun w hw => ?_) hk
  obtain ⟨z, hzr, hzc⟩ := zero_run hz w
  refine ⟨{ w with heap := w.heap.push (row e (rep m.toNat (zc P e))) }, ?_, ⟨rfl, rfl, rfl⟩, by simp [hw]⟩
  have hm : IntKind.i64.wrap m = m := wrap64_id (by omega) (by omega)
  have hn : IntKind.i64.wrap n = n := wrap64_id (by omega) (by omega)
  simp only [execOp, hl, hc]
  refine value_ok' ?_
  unfold Instr.makeSlice
  rw [bind_ok (underlying_run hu w)]
  simp only []
  rw [bind_ok (show (asInt (.int .i64 n)).run P w = .ok n w from rfl), bind_ok (show (asInt (.int .i64 m)).run P w = .ok m w from rfl), bind_ok (typeInfo_run hi w)]
  simp only [hm, hn]
  have hno : ((decide (m < 0) || decide ((i.bytes : Int) * m > 2 ^ 48)) || decide (n < 0) || decide (n > m)) = false := by
    simp only [Bool.or_eq_false_iff, decide_eq_false_iff_not]
    refine ⟨⟨⟨by omega, ?_⟩, by omega⟩, by omega⟩
    have : (i.bytes : Int) * m = m * i.bytes := Int.mul_comm _ _
    omega
  rw [if_neg (by rw [hno]; simp)]
  show (askRoom (m.toNat * i.bytes) >>= _).run P w = _
  rw [bind_ok (askRoom_run _ w), bind_ok (sizeOf_run hi w)]
  by_cases hz0 : m.toNat * i.size = 0
  · rw [if_pos hz0]
    show (newRow e _ >>= _).run P w = _
    rw [hz0]
    have hr : rep m.toNat (zc P e) = [] := List.eq_nil_of_length_eq_zero (by rw [rep_length, hsz, hz0])
    rw [bind_ok (newRow_run e _ w), ← hw, hr]; simp [row, pure_run, show (Array.range 0) = #[] from rfl]
  · rw [if_neg hz0]
    rw [bind_ok hzr, pure_bind]
    rw [bind_ok (newRow_run e _ w), ← hw]
    have : i.size = z.cells.size := by rw [← hsz, hzc]; simp
    simp only [row, rep, Builtin.zeroCells, hzc, this]
    rfl

/-! ### append -/
theorem cellsOfSl_spec {sz : Nat} {v : Value} {n : Nat} {l : List Value} {w : World} (h : cellsOfSl w.heap sz v = some (n, l)) :
    (Builtin.lenOf v).run P w = .ok n w ∧ (Builtin.firstCells sz n v).run P w = .ok l.toArray w := by
  unfold cellsOfSl at h
  split at h
  · injection h with h; injection h with h1 h2; subst h1; subst h2
    exact ⟨rfl, rfl⟩
  · rename_i b o n' c'
    have key : ∀ m, m * sz = 0 → (Builtin.firstCells sz m (.slice (some ⟨b, o, none⟩) n' c')).run P w = .ok #[] w := by
      intro m hm
      simp only [Builtin.firstCells, hm]
      rfl
    split at h
    · rename_i c E fr hb
      split at h
      · rename_i hle
        injection h with h; injection h with h1 h2; subst h1; subst h2
        refine ⟨rfl, ?_⟩
        have hl : ((c.toList.drop o).take (n' * sz)).length = n' * sz := by simp; omega
        have := run_loadCells_list (P := P) (w := w) ⟨b, o, none⟩ ((c.toList.drop o).take (n' * sz)) (by
          intro j v hj
          have hjl : j < n' * sz := by
            have := (List.getElem?_eq_some_iff.1 hj).1; omega
          rw [List.getElem?_take, if_pos hjl, List.getElem?_drop] at hj
          rw [add_none]
          simp [World.cell?, hb]
          simpa using hj)
        rw [hl] at this
        exact this
      · split at h
        · rename_i hz; injection h with h; injection h with h1 h2; subst h1; subst h2
          exact ⟨rfl, key _ hz⟩
        · simp at h
    · split at h
      · rename_i hz; injection h with h; injection h with h1 h2; subst h1; subst h2
        exact ⟨rfl, key _ hz⟩
      · simp at h
  · rename_i b o s n' c'
    split at h
    · rename_i hm
      injection h with h; injection h with h1 h2; subst h1; subst h2
      refine ⟨rfl, ?_⟩
      simp only [Builtin.firstCells, hm]
      rfl
    · simp at h
  · simp at h
theorem cellsOfSl_len {sz : Nat} {v : Value} {n : Nat} {l : List Value} {h : Hp} (hx : cellsOfSl h sz v = some (n, l)) : l.length ≤ n * sz := by
  unfold cellsOfSl at hx
  split at hx
  · injection hx with hx; injection hx with h1 h2; subst h2; simp
  · split at hx
    · split at hx
      · injection hx with hx; injection hx with h1 h2; subst h1; subst h2; simp; omega
      · split at hx
        · injection hx with hx; injection hx with h1 h2; subst h2; simp
        · simp at hx
    · split at hx
      · injection hx with hx; injection hx with h1 h2; subst h2; simp
      · simp at hx
  · split at hx
    · injection hx with hx; injection hx with h1 h2; subst h2; simp
    · simp at hx
  · simp at hx
theorem nextcap_le (a b : Nat) (h : b < a) : Builtin.nextslicecap a b ≤ 2 * a + 1024 := by
  have step : ∀ r c, c ≤ 2 * a + 1024 → Builtin.growBy a r c ≤ 2 * a + 1024 := by
    intro r
    induction r with
    | zero => intro c h; exact h
    | succ r ih =>
      intro c h
      simp only [Builtin.growBy]
      split
      · exact h
      · exact ih _ (by omega)
  unfold Builtin.nextslicecap
  split
  · omega
  · split
    · omega
    · exact step _ _ (by omega)
theorem args2_run {c : Call} {b : Builtin} {x y : Value} (hc : c.callee = .builtin b) (ha : c.args.toList.map (ev f) = [x, y]) (w : World) :
    (execOp (ev f) ⟨none, .call c, ty, "", #[], none⟩).run P w = (builtin b c.argTypes ty (c.args.map fun | .const _ => true | _ => false) #[x, y]).run P w := by
  rw [args_run hc]
  congr 2
  apply Array.ext'; simpa using ha
theorem setStore {b o : Nat} {c : Array Value} {E : TypeId} {ys : List Value} {w : World} (hb : w.heap[b]? = some (.cells c E (0, 0))) (hl : o + ys.length ≤ c.size) (h1 : ∀ v ∈ ys, v.oneCell' = true) :
    (storeCells ⟨b, o, none⟩ ys).run P w = .ok () { w with heap := w.heap.setIfInBounds b (.cells (ow c.toList o ys).toArray E (0, 0)) } := by
  rw [run_storeCells_at (P := P) b o E ys 0 c w hb (by simpa using hl) h1]
  simp only [Nat.add_zero, World.setRow, ow]
  rw [modify_set _ _ _ _ hb]
theorem Aev_append {c : Call} {t u tt : TypeId} {s x : Value} (hc : c.callee = .builtin .append) (ha : c.args.toList.map (ev f) = [s, x]) (ht : c.argTypes.toList = [t, u]) (hu : P.underlying u = some (.slice tt))
    (h : appK P t s x H K) : Aev P (.call c) ty f H K := by
  intro w hw
  subst hw
  have hat : c.argTypes = #[t, u] := Array.ext' (by simpa using ht)
  unfold appK at h
  split at h
  · rename_i e sz by_ base n cap hsl
    obtain ⟨hut, i, hi, rfl, rfl⟩ := slT_spec hsl
    obtain ⟨k, ys, hx, hin, hgrow⟩ := h
    obtain ⟨hlen, hfirst⟩ := cellsOfSl_spec (P := P) hx
    rw [args2_run hc ha, hat]
    have fin : ∃ v w', (Builtin.append_ #[t, u] ty #[.slice base n cap, x]).run P w = .ok v w' ∧ Same w w' ∧ K v w'.heap := by
      unfold Builtin.append_
      show ∃ v w', (underlying t >>= _).run P w = .ok v w' ∧ _
      rw [bind_ok (underlying_run hut w)]
      show ∃ v w', (sizeOf e >>= _).run P w = .ok v w' ∧ _
      rw [bind_ok (sizeOf_run hi w)]
      show ∃ v w', (underlying u >>= _).run P w = .ok v w' ∧ _
      rw [bind_ok (underlying_run hu w)]
      show ∃ v w', (Builtin.lenOf x >>= _).run P w = .ok v w' ∧ _
      rw [bind_ok hlen]
      by_cases hle : n + k ≤ cap
      · show ∃ v w', (if n + k ≤ cap then (Builtin.firstCells i.size k x >>= _) else _).run P w = .ok v w' ∧ _
        rw [if_pos hle, bind_ok hfirst]
        have hin := hin hle
        split at hin
        · obtain ⟨rfl, hK⟩ := hin
          exact ⟨_, w, rfl, .refl w, hK⟩
        · rename_i b o _
          obtain ⟨c, E, hb, hsz, h1, hK⟩ := hin
          show ∃ v w', (storeCells ((⟨b, o, none⟩ : Addr).add (n * i.size)) ys.toArray.toList >>= _).run P w = .ok v w' ∧ _
          have hyl := cellsOfSl_len hx
          rw [add_none, bind_ok (setStore (o := o + n * i.size) (ys := ys) hb (by have := Nat.add_mul n k i.size; omega) h1)]
          exact ⟨_, _, rfl, ⟨rfl, rfl, rfl⟩, hK⟩
        · exact hin.elim
      · obtain ⟨h1, h2, hz, xs, hxs, hK⟩ := hgrow (by omega)
        show ∃ v w', (if n + k ≤ cap then _ else (typeInfo e >>= _)).run P w = .ok v w' ∧ _
        rw [if_neg hle, bind_ok (typeInfo_run hi w)]
        show ∃ v w', (if ((n + k : Nat) : Int) > IntKind.i64.max ∧ (false = true ∨ i.bytes = 0) then _ else (typeInfo e >>= _)).run P w = .ok v w' ∧ _
        rw [if_neg (by
          have : IntKind.i64.max = 9223372036854775807 := by decide
          rw [this]; omega), bind_ok (typeInfo_run hi w)]
        show ∃ v w', (if Builtin.nextslicecap (n + k) cap * i.bytes > 2 ^ 48 then _ else (choose (.appendCap (n + k) cap e) >>= _)).run P w = .ok v w' ∧ _
        rw [if_neg (by omega)]
        obtain ⟨z, hzr, hzc⟩ := zero_run hz (w.drew)
        obtain ⟨_, hfs⟩ := cellsOfSl_spec (P := P) (w := w.drew) hxs
        obtain ⟨_, hfirst'⟩ := cellsOfSl_spec (P := P) (w := w.drew) hx
        let nc := (Question.appendCap (n + k) cap e).cut (w.tape w.drawn (.appendCap (n + k) cap e))
        have hnc : n + k ≤ nc := by simp [nc, Question.cut]
        rw [bind_ok (show (choose (.appendCap (n + k) cap e)).run P w = .ok nc w.drew from rfl)]
        show ∃ v w', (typeInfo e >>= _).run P w.drew = .ok v w' ∧ _
        rw [bind_ok (typeInfo_run hi _), bind_ok (askRoom_run _ _)]
        show ∃ v w', (Builtin.firstCells i.size n (.slice base n cap) >>= _).run P w.drew = .ok v w' ∧ _
        rw [bind_ok hfs]
        show ∃ v w', (Builtin.firstCells i.size k x >>= _).run P w.drew = .ok v w' ∧ _
        rw [bind_ok hfirst', bind_ok hzr]
        show ∃ v w', (newRow e _ >>= _).run P w.drew = .ok v w' ∧ _
        rw [bind_ok (newRow_run e _ _)]
        refine ⟨_, _, rfl, ⟨rfl, rfl, rfl⟩, ?_⟩
        have := hK nc hnc
        have e1 : row e (xs ++ ys ++ rep (nc - (n + k)) (zc P e)) = .cells (xs.toArray ++ ys.toArray ++ Builtin.zeroCells z.cells (nc - (n + k))) e := by
          simp [row, rep, hzc]
        rw [e1] at this
        exact this
    obtain ⟨v, w', hr, hs, hK⟩ := fin
    simp only [builtin]
    rw [value_ok' hr]
    exact ⟨hs, hK⟩
  · exact h.elim
end
end Go.Vy
