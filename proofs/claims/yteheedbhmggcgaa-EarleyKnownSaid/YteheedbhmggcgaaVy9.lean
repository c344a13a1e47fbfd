/- What an operation needs ('Bev'), and that it is enough. -/
import Derived.Test.YteheedbhmggcgaaVy8
import Derived.Great.BuildSlice
namespace Go.Vy
open Go Go.RowKit
set_option linter.unusedVariables false
set_option linter.unusedSimpArgs false

def zv (P : Program) (t : TypeId) : Value := ((P.info? t).bind (·.zero)).getD undef
/-- Where the parts of a struct, or an array, lie. -/
def plc (P : Program) (t : TypeId) : Option (Nat → Option (Nat × Nat)) :=
  match P.underlying t with
  | some (.struct fs) => (fs.toList.mapM fun f => (P.info? f.type).map fun i => (f.offset, i.size)).map fun l i => l[i]?
  | some (.array _ e) => (P.info? e).map fun x i => some (i * x.size, x.size)
  | _ => none
def mapEs (H : Hp) : Option Nat → Option (List MapEntry)
  | none => some []
  | some r => match H[r]? with | some (.map es _) => some es.toList | _ => none
def lkv (ok : Bool) (v : Value) (b : Bool) : Value := if ok then .tuple #[v, .bool b] else v
/-- What a map's iterator may come to next. -/
def cands (es : Array MapEntry) (since : Nat) (seen : Array Nat) : Array (Option MapEntry) :=
  let left := es.filter fun e => !seen.contains e.born
  let old := left.filter (·.born < since)
  let new := left.filter (·.born ≥ since)
  (if old.isEmpty then #[none] else #[]) ++ (old ++ new).map some

def mapPut (P : Program) (t : TypeId) (m k v : Value) (H : Hp) (K : Value → Hp → Prop) : Prop :=
  match P.underlying t, m with
  | some (.map kt _), .map (some r) => match H[r]? with
    | some (.map es clock) => ckey P 10000 kt k = true ∧ ∃ fr, mfind P kt k es.toList = some fr ∧
      match fr with
      | some (i, _) => Instr.sameBits 10000 (((es[i]?).map (·.key)).getD k) k = true ∧ K undef (H.setIfInBounds r (.map (es.modify i fun e => { e with key := k, val := v }) clock))
      | none => K undef (H.setIfInBounds r (.map (es.push { key := k, val := v, born := clock }) (clock + 1)))
    | _ => False
  | _, _ => False

def lkp (P : Program) (t : TypeId) (m k : Value) (ok : Bool) (H : Hp) : Option Value :=
  match P.underlying t, m with
  | some (.map kt et), .map r => (mapEs H r).bind fun es => if ckey P 10000 kt k = true then
      (mfind P kt k es).bind fun fr => match fr with
        | some (_, v) => some (lkv ok v true)
        | none => if hasZero P et = true then some (lkv ok (zv P et) false) else none
    else none
  | _, _ => none
def optK (o : Option Value) (K : Value → Hp → Prop) (H : Hp) : Prop := match o with | some v => K v H | none => False
def optH (o : Option Hp) (K : Value → Hp → Prop) : Prop := match o with | some H => K undef H | none => False
theorem optK_some {v : Value} {K : Value → Hp → Prop} {H : Hp} : optK (some v) K H = K v H := propext Iff.rfl
theorem optH_some {K : Value → Hp → Prop} {H : Hp} : optH (some H) K = K undef H := propext Iff.rfl
def bldV (P : Program) (t : TypeId) (ps : List (Nat × Value)) : Option Value :=
  match plc P t, hasZero P t with
  | some sizes, true => (bld sizes (zc P t) ps).map fun l => .agg l.toArray
  | _, _ => none
def bslK (P : Program) (t : TypeId) (n : Nat) (ps : List (Nat × Value)) (H : Hp) (K : Value → Hp → Prop) : Prop :=
  match slT P t with
  | some (e, sz, _) => if n = 0 then ps = [] ∧ K (.slice (some ⟨H.size, 0, none⟩) 0 0) (H.push (row e [])) else n * sz ≤ 2 ^ 24 ∧ n * sz ≠ 0 ∧ hasZero P e = true ∧ (zc P e).length = sz ∧
      ∃ l, bld (fun i => some (i * sz, sz)) (rep n (zc P e)) ps = some l ∧ K (.slice (some ⟨H.size, 0, none⟩) n n) (H.push (row e l))
  | none => False
def mkSlK (P : Program) (t : TypeId) (a b : Value) (H : Hp) (K : Value → Hp → Prop) : Prop :=
  match a, b, slT P t with
  | .int .i64 n, .int .i64 m, some (e, sz, by_) => 0 ≤ n ∧ n ≤ m ∧ m * by_ ≤ 2 ^ 48 ∧ m ≤ 2 ^ 48 ∧ hasZero P e = true ∧ (zc P e).length = sz ∧
      K (.slice (some ⟨H.size, 0, none⟩) n.toNat m.toNat) (H.push (row e (rep m.toNat (zc P e))))
  | _, _, _ => False
def rangeK (P : Program) (t : TypeId) (x : Value) (H : Hp) (K : Value → Hp → Prop) : Prop :=
  match P.underlying t, x with
  | some (.map _ _), .map none => K (.pointer (some ⟨H.size, 0, none⟩)) (H.push (.mapIter none 0 #[] 0))
  | some (.map _ _), .map (some m) => match H[m]? with
    | some (.map _ clock) => K (.pointer (some ⟨H.size, 0, none⟩)) (H.push (.mapIter (some m) clock #[] clock))
    | _ => False
  | _, _ => False
def nextK (x : Value) (b : Bool) (H : Hp) (K : Value → Hp → Prop) : Prop :=
  match b, x with
  | false, .pointer (some ⟨r, 0, none⟩) => match H[r]? with
    | some (.mapIter none _ _ _) => K (.tuple #[.bool false]) H
    | some (.mapIter (some m) since seen last) => match H[m]? with
      | some (.map es clock) => (!seen.isEmpty && !es.isEmpty && es.all (·.born ≥ last)) = false ∧
        ∀ c ∈ cands es since seen, match c with
          | some e => K (.tuple #[.bool true, e.key, e.val]) (H.setIfInBounds r (.mapIter (some m) since (seen.push e.born) clock))
          | none => K (.tuple #[.bool false]) H
      | _ => False
    | _ => False
  | _, _ => False
/-- The entry at which an iterator is. -/
def entryK (x : Value) (H : Hp) : Option Value :=
  match x with
  | .pointer (some ⟨r, 0, _⟩) => match H[r]? with
    | some (.mapIter (some m) _ seen stepped) => match seen.back?, H[m]? with
      | some stamp, some (.map es clock) => if clock = stepped then (es.find? (·.born == stamp)).map fun e => .tuple #[e.key, e.val] else none
      | _, _ => none
    | _ => none
  | _ => none
def mapEntK (P : Program) (t : TypeId) (m k : Value) (H : Hp) (K : Value → Hp → Prop) : Prop :=
  match P.underlying t, m with
  | some (.map kt et), .map (some r) => match H[r]? with
    | some (.map es clock) => ckey P 10000 kt k = true ∧ ∃ fr, mfind P kt k es.toList = some fr ∧
      match fr with
      | some (i, v) => Instr.sameBits 10000 (((es[i]?).map (·.key)).getD k) k = true ∧ K (.tuple #[v, .int .i64 (((es[i]?).map (·.born)).getD 0 : Nat)]) (H.setIfInBounds r (.map (es.modify i fun e => { e with key := k }) clock))
      | none => hasZero P et = true ∧ K (.tuple #[zv P et, .int .i64 clock]) (H.setIfInBounds r (.map (es.push { key := k, val := zv P et, born := clock }) (clock + 1)))
    | _ => False
  | _, _ => False
def entStK (m s x : Value) (H : Hp) (K : Value → Hp → Prop) : Prop :=
  match m, s with
  | .map (some r), .int _ n => match H[r]? with
    | some (.map es clock) => match es.findIdx? (fun e => (e.born : Int) == n) with
      | some i => K undef (H.setIfInBounds r (.map (es.modify i fun e => { e with val := x }) clock))
      | none => False
    | _ => False
  | _, _ => False
def lenV (P : Program) (vs : List Value) (ts : List TypeId) (H : Hp) : Option Value :=
  match vs, ts with
  | [.map (some r)], [t] => match P.underlying t, H[r]? with
    | some (.map _ _), some (.map es _) => some (.int .i64 es.size)
    | _, _ => none
  | _, _ => rdB P .len vs ts

def Bev (P : Program) (op : Op) (f : Nat → Value) (H : Hp) (K : Value → Hp → Prop) : Prop :=
  match op with
  | .alloc e => if hasZero P e = true then K (.pointer (some ⟨H.size, 0, none⟩)) (H.push (row e (zc P e))) else False
  | .box e x => K (.pointer (some ⟨H.size, 0, none⟩)) (H.push (row e (ev f x).cells.toList))
  | .build t ps => optK (bldV P t (ps.toList.map fun x => (x.1, ev f x.2))) K H
  | .buildSlice t n ps => bslK P t n (ps.toList.map fun x => (x.1, ev f x.2)) H K
  | .store t a x => match ev f a with
    | .pointer (some p) => optH (st P H t p (ev f x)) K
    | _ => False
  | .makeMap t r => match r with
    | none => K (.map (some H.size)) (H.push (.map #[] 0))
    | some _ => False
  | .makeSlice t l c => mkSlK P t (ev f l) (ev f c) H K
  | .slice t x lo hi mx => optK (slc P t (ev f x) (lo.map (ev f)) (hi.map (ev f)) (mx.map (ev f))) K H
  | .lookup t x k ok => optK (lkp P t (ev f x) (ev f k) ok H) K H
  | .mapUpdate t m k x | .insert t m k x => mapPut P t (ev f m) (ev f k) (ev f x) H K
  | .range t x => rangeK P t (ev f x) H K
  | .next it b => nextK (ev f it) b H K
  | .entry it => optK (entryK (ev f it) H) K H
  | .mapEntry t m k => mapEntK P t (ev f m) (ev f k) H K
  | .entryStore _ m s x => entStK (ev f m) (ev f s) (ev f x) H K
  | .call c => match c.callee with
    | .value x => match ev f x with
      | .func (.func F) a b => CallsV P F (a ++ c.args.map (ev f) ++ b) H K
      | _ => False
    | .builtin .append => match c.args.toList.map (ev f), c.argTypes.toList with
      | [s, x], [t, u] => match P.underlying u with
        | some (.slice _) => appK P t s x H K
        | _ => False
      | _, _ => False
    | .builtin .len => optK (lenV P (c.args.toList.map (ev f)) c.argTypes.toList H) K H
    | .builtin b => optK (rdB P b (c.args.toList.map (ev f)) c.argTypes.toList) K H
    | _ => False
  | _ => optK (rd P op f H) K H

section
variable {P : Program} {f : Nat → Value} {H : Hp} {K : Value → Hp → Prop} {ty : TypeId} {op : Op}
theorem zv_run {e : TypeId} (h : hasZero P e = true) (w : World) : (zeroValue e).run P w = .ok (zv P e) w := by
  unfold hasZero at h
  cases hi : P.info? e with
  | none => simp [hi] at h
  | some i =>
    cases hz : i.zero with
    | none => simp [hi, hz] at h
    | some z =>
      unfold zeroValue
      rw [bind_ok (typeInfo_run hi w), hz]; simp [zv, hi, hz]
theorem build_run {t : TypeId} {ps : Array (Nat × Operand)} {sizes : Nat → Option (Nat × Nat)} {l : List Value} (w : World) (hp : plc P t = some sizes) (hz : hasZero P t = true)
    (hb : bld sizes (zc P t) (ps.toList.map fun x => (x.1, ev f x.2)) = some l) : (Instr.build t (ps.map fun x => (x.1, ev f x.2))).run P w = .ok (.agg l.toArray) w := by
  refine run_build (P := P) w t _ l.toArray ?_
  have hf := bld_fill _ _ _ hb
  have hl : (ps.map fun (x : Nat × Operand) => (x.1, ev f x.2)).toList = ps.toList.map fun x => (x.1, ev f x.2) := by simp
  unfold hasZero at hz
  unfold plc at hp
  cases hi : P.info? t with
  | none => simp [hi] at hz
  | some it =>
    cases hzz : it.zero with
    | none => simp [hi, hzz] at hz
    | some z =>
      have hzc : (zc P t).toArray = z.cells := by simp [zc, hi, hzz]
      rw [hzc] at hf
      unfold Program.built
      rw [hi]
      split at hp
      · rename_i fs hu
        cases hm : fs.toList.mapM (fun f => (P.info? f.type).map fun i => (f.offset, i.size)) with
        | none => simp [hm] at hp
        | some pl =>
          simp only [hm, Option.map_some] at hp; injection hp with hp; subst hp
          rw [hu]
          simp only [hzz, hm]
          have e : (fun i : Nat => pl.toArray[i]?) = fun i : Nat => pl[i]? := by funext i; simp
          rw [e]; rw [← hl] at hf; exact hf
      · rename_i n e hu
        cases hie : P.info? e with
        | none => simp [hie] at hp
        | some ie =>
          simp only [hie, Option.map_some] at hp; injection hp with hp; subst hp
          rw [hu]
          simp only [hzz, hie]
          rw [← hl] at hf; exact hf
      · simp at hp
theorem Aev_build {t : TypeId} {ps : Array (Nat × Operand)} {sizes : Nat → Option (Nat × Nat)} {l : List Value} (hp : plc P t = some sizes) (hz : hasZero P t = true)
    (hb : bld sizes (zc P t) (ps.toList.map fun x => (x.1, ev f x.2)) = some l) (hk : K (.agg l.toArray) H) : Aev P (.build t ps) ty f H K := by
  refine Aev_value (fun w hw => ⟨w, ?_, .refl w, hw⟩) hk
  simp only [execOp]
  exact value_ok' (build_run w hp hz hb)
theorem Aev_buildSlice {t e : TypeId} {n sz by_ : Nat} {ps : Array (Nat × Operand)} {l : List Value} (ht : slT P t = some (e, sz, by_)) (h1 : n * sz ≤ 2 ^ 24) (h2 : n * sz ≠ 0) (hz : hasZero P e = true)
    (hb : bld (fun i => some (i * sz, sz)) (rep n (zc P e)) (ps.toList.map fun x => (x.1, ev f x.2)) = some l) (hsz : (zc P e).length = sz)
    (hk : K (.slice (some ⟨H.size, 0, none⟩) n n) (H.push (row e l))) : Aev P (.buildSlice t n ps) ty f H K := by
  obtain ⟨hu, i, hi, rfl, rfl⟩ := slT_spec ht
  refine Aev_value (fun w hw => ?_) hk
  unfold hasZero at hz
  cases hzz : i.zero with
  | none => simp [hi, hzz] at hz
  | some z =>
    have hzc : zc P e = z.cells.toList := by simp [zc, hi, hzz]
    have hf := bld_fill _ _ _ hb
    have hr : (rep n (zc P e)).toArray = (Array.range (n * i.size)).map (z.cells[· % z.cells.size]!) := by
      have : z.cells.size = i.size := by rw [← hsz, hzc]; simp
      simp only [rep, Builtin.zeroCells, hzc, Array.toArray_toList, this]
    rw [hr] at hf
    have hl : (ps.map fun (x : Nat × Operand) => (x.1, ev f x.2)).toList = ps.toList.map fun x => (x.1, ev f x.2) := by simp
    rw [← hl] at hf
    refine ⟨w.alloc (.cells l.toArray e), ?_, ⟨rfl, rfl, rfl⟩, by simp [World.alloc, hw, row]⟩
    simp only [execOp]
    refine value_ok' ?_
    rw [run_buildSlice (P := P) w t e n _ l.toArray i z hu hi hzz (by omega) h2 hf, ← hw]
theorem Aev_buildSlice0 {t e : TypeId} {sz by_ : Nat} {ps : Array (Nat × Operand)} (ht : slT P t = some (e, sz, by_)) (hps : ps.toList = [])
    (hk : K (.slice (some ⟨H.size, 0, none⟩) 0 0) (H.push (row e []))) : Aev P (.buildSlice t 0 ps) ty f H K := by
  obtain ⟨hu, i, hi, rfl, rfl⟩ := slT_spec ht
  refine Aev_value (fun w hw => ?_) hk
  have : ps = #[] := Array.ext' (by simpa using hps)
  subst this
  refine ⟨w.alloc (.cells #[] e), ?_, ⟨rfl, rfl, rfl⟩, by simp [World.alloc, hw, row]⟩
  simp only [execOp]
  refine value_ok' ?_
  rw [← hw]
  unfold Instr.buildSlice
  rw [bind_ok (underlying_run hu w)]
  show (sizeOf e >>= _).run P w = _
  rw [bind_ok (sizeOf_run hi w)]
  simp [Instr.fill, newRow, show Array.range 0 = #[] from rfl]
theorem getObj_run {r : Nat} {o : Obj} {w : World} (h : w.heap[r]? = some o) (hn : ∀ c e x, o ≠ .cells c e x) : (getObj r).run P w = .ok o w := by
  cases o <;> first | (exact absurd rfl (hn _ _ _)) | simp [getObj, Sem.run, h]
theorem lkp_run {t : TypeId} {x k : Operand} {ok : Bool} {v : Value} (w : World) (h : lkp P t (ev f x) (ev f k) ok w.heap = some v) : (execOp (ev f) ⟨none, .lookup t x k ok, ty, "", #[], none⟩).run P w = .ok (.value v) w := by
  unfold lkp at h
  split at h
  · rename_i kt et r hu hx
    cases he : mapEs w.heap r with
    | none => simp [he] at h
    | some es =>
      simp only [he, Option.bind_some] at h
      split at h
      · rename_i hc
        cases hf : mfind P kt (ev f k) es with
        | none => simp [hf] at h
        | some fr =>
          simp only [hf, Option.bind_some] at h
          simp only [execOp, hx]
          refine value_ok ?_
          have tail : ∀ es' : Array MapEntry, es'.toList = es → (do
              Instr.checkKey es'.isEmpty 10000 kt (ev f k)
              let (v, ok') ← match ← Instr.findKey kt (ev f k) es'.toList with
                | some (_, v) => pure (v, true)
                | none => pure (← zeroValue et, false)
              pure (if ok then .tuple #[v, .bool ok'] else v) : Sem Value).run P w = .ok v w := by
            rintro es' rfl
            rw [bind_ok (ckey_run 10000 kt _ w hc), bind_ok (mfind_run w hf)]
            cases fr with
            | some x => simp only [] at h; injection h with h; subst h; rfl
            | none =>
              simp only [] at h
              split at h
              · rename_i hz; injection h with h; subst h
                show (zeroValue et >>= _).run P w = _
                rw [bind_ok (zv_run hz w)]; rfl
              · simp at h
          unfold Instr.lookup
          rw [bind_ok (underlying_run hu w)]
          cases r with
          | none =>
            simp only [mapEs] at he; injection he with he
            exact tail #[] (by simpa using he)
          | some r =>
            simp only [mapEs] at he
            split at he
            · rename_i es' cl hr
              injection he with he
              show (getObj r >>= _).run P w = _
              rw [bind_ok (getObj_run hr (by simp))]
              exact tail es' he
            · simp at he
      · simp at h
  · simp at h
theorem setObj_run {r : Nat} {o o' : Obj} {w : World} (h : w.heap[r]? = some o) (hn : ∀ c e x, o ≠ .cells c e x) : (setObj r o').run P w = .ok () { w with heap := w.heap.setIfInBounds r o' } := by
  cases o <;> first | (exact absurd rfl (hn _ _ _)) | simp [setObj, Sem.run, h]
theorem mapPut_run {t : TypeId} {m k v : Value} (w : World) (h : mapPut P t m k v w.heap K) : ∃ H', (Instr.mapUpdate t m k v).run P w = .ok () { w with heap := H' } ∧ K undef H' := by
  unfold mapPut at h
  split at h
  · rename_i kt et r hu
    split at h
    · rename_i es clock hr
      obtain ⟨hc, fr, hf, hk⟩ := h
      unfold Instr.mapUpdate
      show ∃ H', (underlying t >>= _).run P w = .ok () { w with heap := H' } ∧ _
      rw [bind_ok (underlying_run hu w)]
      show ∃ H', (getObj r >>= _).run P w = .ok () { w with heap := H' } ∧ _
      rw [bind_ok (getObj_run hr (by simp))]
      show ∃ H', (Instr.checkKey false 10000 kt k >>= _).run P w = .ok () { w with heap := H' } ∧ _
      rw [bind_ok (ckey_run 10000 kt _ w hc), bind_ok (mfind_run w hf)]
      cases fr with
      | some x =>
        obtain ⟨i, x⟩ := x
        obtain ⟨hb, hk⟩ := hk
        show ∃ H', (Instr.keyThatStays (((es[i]?).map (·.key)).getD k) k >>= _).run P w = .ok () { w with heap := H' } ∧ _
        rw [bind_ok (show (Instr.keyThatStays (((es[i]?).map (·.key)).getD k) k).run P w = .ok k w from by unfold Instr.keyThatStays; rw [if_pos hb]; rfl)]
        exact ⟨_, setObj_run hr (by simp), hk⟩
      | none => exact ⟨_, setObj_run hr (by simp), hk⟩
    · exact h.elim
  · exact h.elim
theorem unit_ok {s : Sem Unit} {w w' : World} (h : s.run P w = .ok () w') : (do s; pure Next.skip : Sem Next).run P w = .ok .skip w' := by
  rw [bind_ok h]; rfl
theorem Aev_mapUpdate {t : TypeId} {m k x : Operand} (h : mapPut P t (ev f m) (ev f k) (ev f x) H K) : Aev P (.mapUpdate t m k x) ty f H K := by
  intro w hw
  subst hw
  obtain ⟨H', hr, hk⟩ := mapPut_run w h
  have e : (execOp (ev f) ⟨none, .mapUpdate t m k x, ty, "", #[], none⟩).run P w = .ok .skip { w with heap := H' } := by
    simp only [execOp]; exact unit_ok hr
  rw [e]; exact ⟨⟨rfl, rfl, rfl⟩, hk⟩
theorem Aev_insert {t : TypeId} {m k x : Operand} (h : mapPut P t (ev f m) (ev f k) (ev f x) H K) : Aev P (.insert t m k x) ty f H K := by
  intro w hw
  subst hw
  obtain ⟨H', hr, hk⟩ := mapPut_run w h
  have e : (execOp (ev f) ⟨none, .insert t m k x, ty, "", #[], none⟩).run P w = .ok .skip { w with heap := H' } := by
    simp only [execOp]; exact unit_ok hr
  rw [e]; exact ⟨⟨rfl, rfl, rfl⟩, hk⟩
theorem entry_run {x v : Value} (w : World) (h : entryK x w.heap = some v) : (Instr.entry x).run P w = .ok v w := by
  unfold entryK at h
  split at h
  · rename_i r s
    split at h
    · rename_i m since seen stepped hr
      split at h
      · rename_i stamp es clock hs hm
        split at h
        · rename_i hc
          cases hf : es.find? (·.born == stamp) with
          | none => simp [hf] at h
          | some e =>
            rw [hf] at h
            simp only [Option.map_some] at h; injection h with h; subst h
            unfold Instr.entry
            show (getObj r >>= _).run P w = _
            rw [bind_ok (getObj_run hr (by simp))]
            simp only [hs]
            rw [bind_ok (getObj_run hm (by simp))]
            simp only [hf, hc]
            rw [if_neg (by simp)]
            rfl
        · simp at h
      · simp at h
    · simp at h
  · simp at h
theorem mapEnt_run {t : TypeId} {m k : Value} (w : World) (h : mapEntK P t m k w.heap K) : ∃ v H', (Instr.mapEntry t m k).run P w = .ok v { w with heap := H' } ∧ K v H' := by
  unfold mapEntK at h
  split at h
  · rename_i kt et r hu
    split at h
    · rename_i es clock hr
      obtain ⟨hc, fr, hf, hk⟩ := h
      unfold Instr.mapEntry
      show ∃ v H', (underlying t >>= _).run P w = .ok v { w with heap := H' } ∧ _
      rw [bind_ok (underlying_run hu w)]
      show ∃ v H', (getObj r >>= _).run P w = .ok v { w with heap := H' } ∧ _
      rw [bind_ok (getObj_run hr (by simp))]
      show ∃ v H', (Instr.checkKey false 10000 kt k >>= _).run P w = .ok v { w with heap := H' } ∧ _
      rw [bind_ok (ckey_run 10000 kt _ w hc), bind_ok (mfind_run w hf)]
      cases fr with
      | some x =>
        obtain ⟨i, x⟩ := x
        obtain ⟨hb, hk⟩ := hk
        show ∃ v H', (Instr.keyThatStays (((es[i]?).map (·.key)).getD k) k >>= _).run P w = .ok v { w with heap := H' } ∧ _
        rw [bind_ok (show (Instr.keyThatStays (((es[i]?).map (·.key)).getD k) k).run P w = .ok k w from by unfold Instr.keyThatStays; rw [if_pos hb]; rfl)]
        refine ⟨_, _, ?_, hk⟩
        show (setObj r _ >>= _).run P w = _
        rw [bind_ok (setObj_run hr (by simp))]
        cases es[i]? <;> rfl
      | none =>
        refine ⟨_, _, ?_, hk.2⟩
        show (zeroValue et >>= _).run P w = _
        rw [bind_ok (zv_run hk.1 w)]
        show (setObj r _ >>= _).run P w = _
        rw [bind_ok (setObj_run hr (by simp))]; rfl
    · exact h.elim
  · exact h.elim
theorem entSt_run {t : TypeId} {m s x : Value} (w : World) (h : entStK m s x w.heap K) : ∃ H', (Instr.entryStore t m s x).run P w = .ok () { w with heap := H' } ∧ K undef H' := by
  unfold entStK at h
  split at h
  · rename_i r k n
    split at h
    · rename_i es clock hr
      split at h
      · rename_i i hi
        refine ⟨_, ?_, h⟩
        unfold Instr.entryStore
        show (getObj r >>= _).run P w = _
        rw [bind_ok (getObj_run hr (by simp))]
        show (asInt (.int k n) >>= _).run P w = _
        rw [bind_ok (show (asInt (.int k n)).run P w = .ok n w from rfl)]
        simp only [hi]
        exact setObj_run hr (by simp)
      · exact h.elim
    · exact h.elim
  · exact h.elim
theorem Aev_mapEntry {t : TypeId} {m k : Operand} (h : mapEntK P t (ev f m) (ev f k) H K) : Aev P (.mapEntry t m k) ty f H K := by
  intro w hw
  subst hw
  obtain ⟨v, H', hr, hk⟩ := mapEnt_run w h
  have e : (execOp (ev f) ⟨none, .mapEntry t m k, ty, "", #[], none⟩).run P w = .ok (.value v) { w with heap := H' } := by
    simp only [execOp]; exact value_ok' hr
  rw [e]; exact ⟨⟨rfl, rfl, rfl⟩, hk⟩
theorem Aev_entryStore {t : TypeId} {m s x : Operand} (h : entStK (ev f m) (ev f s) (ev f x) H K) : Aev P (.entryStore t m s x) ty f H K := by
  intro w hw
  subst hw
  obtain ⟨H', hr, hk⟩ := entSt_run (t := t) w h
  have e : (execOp (ev f) ⟨none, .entryStore t m s x, ty, "", #[], none⟩).run P w = .ok .skip { w with heap := H' } := by
    simp only [execOp]; exact unit_ok hr
  rw [e]; exact ⟨⟨rfl, rfl, rfl⟩, hk⟩
theorem Aev_range {t kt et : TypeId} {x : Operand} {m : Nat} {es : Array MapEntry} {clock : Nat} (hu : P.underlying t = some (.map kt et)) (hx : ev f x = .map (some m)) (hm : H[m]? = some (.map es clock))
    (hk : K (.pointer (some ⟨H.size, 0, none⟩)) (H.push (.mapIter (some m) clock #[] clock))) : Aev P (.range t x) ty f H K := by
  refine Aev_value (fun w hw => ?_) hk
  refine ⟨{ w with heap := w.heap.push (.mapIter (some m) clock #[] clock) }, ?_, ⟨rfl, rfl, rfl⟩, by simp [hw]⟩
  subst hw
  simp only [execOp, hx]
  refine value_ok' ?_
  unfold Instr.range
  rw [bind_ok (underlying_run hu w)]
  show (getObj m >>= _).run P w = _
  rw [bind_ok (getObj_run hm (by simp))]
  rfl
theorem Aev_rangeNil {t kt et : TypeId} {x : Operand} (hu : P.underlying t = some (.map kt et)) (hx : ev f x = .map none)
    (hk : K (.pointer (some ⟨H.size, 0, none⟩)) (H.push (.mapIter none 0 #[] 0))) : Aev P (.range t x) ty f H K := by
  refine Aev_value (fun w hw => ?_) hk
  refine ⟨{ w with heap := w.heap.push (.mapIter none 0 #[] 0) }, ?_, ⟨rfl, rfl, rfl⟩, by simp [hw]⟩
  subst hw
  simp only [execOp, hx]
  refine value_ok' ?_
  unfold Instr.range
  rw [bind_ok (underlying_run hu w)]
  rfl
theorem Aev_nextNil {it : Operand} {r a b : Nat} {s : Array Nat} (hx : ev f it = .pointer (some ⟨r, 0, none⟩)) (hr : H[r]? = some (.mapIter none a s b)) (hk : K (.tuple #[.bool false]) H) : Aev P (.next it false) ty f H K := by
  refine Aev_value (fun w hw => ⟨w, ?_, .refl w, hw⟩) hk
  subst hw
  simp only [execOp, hx]
  refine value_ok' ?_
  unfold Instr.next
  show (getObj r >>= _).run P w = _
  rw [bind_ok (getObj_run hr (by simp))]
  rfl
theorem cands_pos (es : Array MapEntry) (since : Nat) (seen : Array Nat) : 0 < (cands es since seen).size := by
  unfold cands
  simp only [Array.size_append, Array.size_map]
  split
  · simp; omega
  · rename_i h
    have : 0 < (Array.filter (fun x => decide (x.born < since)) (Array.filter (fun e => !seen.contains e.born) es)).size := by
      rw [Array.size_pos_iff]; simpa [Array.isEmpty_iff] using h
    omega
theorem Aev_next {it : Operand} {r m since last clock : Nat} {seen : Array Nat} {es : Array MapEntry} (hx : ev f it = .pointer (some ⟨r, 0, none⟩)) (hr : H[r]? = some (.mapIter (some m) since seen last)) (hm : H[m]? = some (.map es clock))
    (hg : (!seen.isEmpty && !es.isEmpty && es.all (·.born ≥ last)) = false)
    (hk : ∀ c ∈ cands es since seen, match c with
      | some e => K (.tuple #[.bool true, e.key, e.val]) (H.setIfInBounds r (.mapIter (some m) since (seen.push e.born) clock))
      | none => K (.tuple #[.bool false]) H) : Aev P (.next it false) ty f H K := by
  intro w hw
  subst hw
  have : ∃ v w', (Instr.next (.pointer (some ⟨r, 0, none⟩)) false ty).run P w = .ok v w' ∧ Same w w' ∧ K v w'.heap := by
    unfold Instr.next
    show ∃ v w', (getObj r >>= _).run P w = .ok v w' ∧ _
    rw [bind_ok (getObj_run hr (by simp))]
    show ∃ v w', (getObj m >>= _).run P w = .ok v w' ∧ _
    rw [bind_ok (getObj_run hm (by simp))]
    show ∃ v w', (if (!seen.isEmpty && !es.isEmpty && es.all (·.born ≥ last)) = true then _ else (choose (.mapNext (cands es since seen).size) >>= fun i => match (cands es since seen)[i]? with
      | some (some e) => do
        setObj r (.mapIter (some m) since (seen.push e.born) clock)
        pure (.tuple #[.bool true, e.key, e.val])
      | some none => pure (.tuple #[.bool false])
      | none => stuck "Next: no such candidate" : Sem Value)).run P w = .ok v w' ∧ _
    rw [if_neg (by rw [hg]; simp)]
    have hpos := cands_pos es since seen
    have hch : ∃ i w1, (choose (.mapNext (cands es since seen).size)).run P w = .ok i w1 ∧ i < (cands es since seen).size ∧ w1.heap = w.heap ∧ Same w w1 := by
      unfold choose
      simp only [Sem.run]
      split
      · exact ⟨0, w, rfl, hpos, rfl, .refl w⟩
      · exact ⟨_, _, rfl, Nat.mod_lt _ hpos, rfl, ⟨rfl, rfl, rfl⟩⟩
    obtain ⟨i, w1, hch, hi, hh, hs⟩ := hch
    rw [bind_ok hch]
    have hmem : (cands es since seen)[i] ∈ cands es since seen := Array.getElem_mem hi
    have hk := hk _ hmem
    rw [Array.getElem?_eq_getElem hi]
    cases hc : (cands es since seen)[i] with
    | some e =>
      rw [hc] at hk
      refine ⟨_, { w1 with heap := w1.heap.setIfInBounds r (.mapIter (some m) since (seen.push e.born) clock) }, ?_, hs.trans ⟨rfl, rfl, rfl⟩, by rw [← hh] at hk; exact hk⟩
      show (setObj r _ >>= _).run P w1 = _
      rw [bind_ok (setObj_run (by rw [hh]; exact hr) (by simp))]; rfl
    | none =>
      rw [hc] at hk
      exact ⟨_, w1, rfl, hs, by rw [hh]; exact hk⟩
  obtain ⟨v, w', hv, hs, hK⟩ := this
  have e : (execOp (ev f) ⟨none, .next it false, ty, "", #[], none⟩).run P w = .ok (.value v) w' := by
    simp only [execOp, hx]; exact value_ok' hv
  rw [e]
  exact ⟨hs, hK⟩
theorem Aev_slice {t : TypeId} {x : Operand} {lo hi mx : Option Operand} {v : Value} (h : slc P t (ev f x) (lo.map (ev f)) (hi.map (ev f)) (mx.map (ev f)) = some v) (hk : K v H) : Aev P (.slice t x lo hi mx) ty f H K := by
  refine Aev_value (fun w hw => ⟨w, ?_, .refl w, hw⟩) hk
  simp only [execOp]
  exact value_ok' (slc_run w h)
theorem Aev_lenMap {c : Call} {t kt et : TypeId} {r clock : Nat} {es : Array MapEntry} (hc : c.callee = .builtin .len) (ha : c.args.toList.map (ev f) = [.map (some r)]) (ht : c.argTypes.toList = [t]) (hu : P.underlying t = some (.map kt et))
    (hr : H[r]? = some (.map es clock)) (hk : K (.int .i64 es.size) H) : Aev P (.call c) ty f H K := by
  refine Aev_value (fun w hw => ⟨w, ?_, .refl w, hw⟩) hk
  subst hw
  rw [args_run hc]
  have hat : c.argTypes = #[t] := Array.ext' (by simpa using ht)
  have haa : c.args.map (ev f) = #[.map (some r)] := Array.ext' (by simpa using ha)
  rw [hat, haa]
  simp only [builtin]
  refine value_ok' ?_
  unfold Builtin.len_
  show (underlying t >>= _).run P w = _
  rw [bind_ok (underlying_run hu w)]
  show (getObj r >>= _).run P w = _
  rw [bind_ok (getObj_run hr (by simp))]; rfl

theorem optK_elim {o : Option Value} (h : optK o K H) : ∃ v, o = some v ∧ K v H := by
  unfold optK at h
  split at h
  · rename_i v; exact ⟨v, rfl, h⟩
  · exact h.elim
theorem Aev_of_Bev (h : Bev P op f H K) : Aev P op ty f H K := by
  cases op <;> simp only [Bev] at h
  case alloc e =>
    split at h
    · rename_i hz; exact Aev_alloc hz h
    · exact h.elim
  case box e x => exact Aev_box h
  case build t ps =>
    obtain ⟨v, hv, hk⟩ := optK_elim h
    unfold bldV at hv
    split at hv
    · rename_i sizes hp hz
      cases hl : bld sizes (zc P t) (ps.toList.map fun x => (x.1, ev f x.2)) with
      | none => simp [hl] at hv
      | some l => simp only [hl, Option.map_some] at hv; injection hv with hv; subst hv; exact Aev_build hp hz hl hk
    · simp at hv
  case buildSlice t n ps =>
    unfold bslK at h
    split at h
    · rename_i e sz by_ ht
      split at h
      · rename_i hn; subst hn
        exact Aev_buildSlice0 ht (by simpa using h.1) h.2
      · obtain ⟨h1, h2, hz, hs, l, hl, hk⟩ := h
        exact Aev_buildSlice ht h1 h2 hz hl hs hk
    · exact h.elim
  case store t a x =>
    split at h
    · rename_i p hp
      unfold optH at h
      split at h
      · rename_i H' hs; exact Aev_store hp hs h
      · exact h.elim
    · exact h.elim
  case makeMap t r =>
    cases r with
    | none => exact Aev_makeMap h
    | some _ => exact h.elim
  case makeSlice t l c =>
    unfold mkSlK at h
    split at h
    · rename_i n m e sz by_ hl hc ht
      obtain ⟨h1, h2, h3, h4, h5, h6, hk⟩ := h
      exact Aev_makeSlice hl hc ht h1 h2 h3 h4 h5 h6 hk
    · exact h.elim
  case slice t x lo hi mx => obtain ⟨v, hv, hk⟩ := optK_elim h; exact Aev_slice hv hk
  case lookup t x k ok =>
    obtain ⟨v, hv, hk⟩ := optK_elim h
    exact Aev_value (fun w hw => ⟨w, lkp_run w (by rw [hw]; exact hv), .refl w, hw⟩) hk
  case mapUpdate t m k x => exact Aev_mapUpdate h
  case mapEntry t m k => exact Aev_mapEntry h
  case entryStore t m s x => exact Aev_entryStore h
  case entry it =>
    obtain ⟨v, hv, hk⟩ := optK_elim h
    exact Aev_value (fun w hw => ⟨w, by simp only [execOp]; exact value_ok' (entry_run w (by rw [hw]; exact hv)), .refl w, hw⟩) hk
  case insert t m k x => exact Aev_insert h
  case range t x =>
    unfold rangeK at h
    split at h
    · rename_i kt et hu hx; exact Aev_rangeNil hu hx h
    · rename_i kt et m hu hx
      split at h
      · rename_i es clock hm; exact Aev_range hu hx hm h
      · exact h.elim
    · exact h.elim
  case next it b =>
    unfold nextK at h
    split at h
    · rename_i r hx
      split at h
      · rename_i a s b hr; exact Aev_nextNil hx hr h
      · rename_i m since seen last hr
        split at h
        · rename_i es clock hm; exact Aev_next hx hr hm h.1 h.2
        · exact h.elim
      · exact h.elim
    · exact h.elim
  case call c =>
    split at h
    · rename_i x hc
      split at h
      · rename_i F a b hx; exact Aev_call hc hx h
      · exact h.elim
    · rename_i hc
      split at h
      · rename_i s x t u ha ht
        split at h
        · rename_i e hu; exact Aev_append hc ha ht hu h
        · exact h.elim
      · exact h.elim
    · rename_i hc
      obtain ⟨v, hv, hk⟩ := optK_elim h
      unfold lenV at hv
      split at hv
      · rename_i r t ha ht
        split at hv
        · rename_i kt et es clock hu hr; injection hv with hv; subst hv; exact Aev_lenMap hc ha ht hu hr hk
        · simp at hv
      · exact Aev_rd (v := v) (by simp only [rd, hc]; exact hv) hk
    · rename_i b hna hnl hc
      obtain ⟨v, hv, hk⟩ := optK_elim h
      exact Aev_rd (v := v) (by simp only [rd, hc]; exact hv) hk
    · exact h.elim
  all_goals (obtain ⟨v, hv, hk⟩ := optK_elim h; exact Aev_rd hv hk)
end
end Go.Vy
