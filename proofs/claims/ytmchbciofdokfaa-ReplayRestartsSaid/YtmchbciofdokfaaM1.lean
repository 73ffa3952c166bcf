/- Maps whose keys are whole numbers: what they have, in the order in which it came; laws of their operations. -/
import Derived.Maps.RangeWalk
import Derived.Carry
import Derived.WalkKit
namespace Go.Proofs.Ytmchbciofdokfaa
open Go.MapKept
open Go.ChangeMaps (setBlock)
set_option linter.unusedSimpArgs false
set_option linter.unusedVariables false

/-- What a list of keys and values is in memory. -/
def kvOf (l : List (Int × Value)) : List (Value × Value) := l.map fun p => (.int .i64 p.1, p.2)
def kvs (l : List MapEntry) : List (Value × Value) := l.map fun e => (e.key, e.val)
/-- Block b of w is a map that has l. -/
def IMap (w : World) (b : Nat) (l : List (Int × Value)) : Prop := ∃ es clock, w.heap[b]? = some (.map es clock) ∧ Stamped es clock ∧ kvs es.toList = kvOf l
/-- What a map has under a key. -/
def look (l : List (Int × Value)) (n : Int) : Option Value := (l.find? fun p => p.1 == n).map (·.2)
/-- A map with a value laid under a key. -/
def putL (l : List (Int × Value)) (n : Int) (v : Value) : List (Int × Value) := if l.any (fun p => p.1 == n) = true then l.map fun p => if p.1 = n then (n, v) else p else l ++ [(n, v)]
/-- A map without a key. -/
def delL (l : List (Int × Value)) (n : Int) : List (Int × Value) := l.filter fun p => !(p.1 == n)

theorem nodup_of_map {α β : Type} (f : α → β) {l : List α} (h : (l.map f).Nodup) : l.Nodup := by
  rw [List.Nodup, List.pairwise_map] at h
  exact h.imp fun hne e => hne (by rw [e])
theorem erase_map {α β : Type} (f : α → β) : ∀ (l : List α) (i : Nat), (l.eraseIdx i).map f = (l.map f).eraseIdx i
  | [], _ => rfl
  | a :: l, 0 => rfl
  | a :: l, i + 1 => by simp [erase_map f l i]
theorem kvs_keys {es : List MapEntry} {l : List (Int × Value)} (h : kvs es = kvOf l) : es.map (·.key) = l.map fun p => .int .i64 p.1 := by
  have := congrArg (List.map Prod.fst) h
  simpa [kvs, kvOf, Function.comp_def] using this
theorem kvs_get {es : List MapEntry} {l : List (Int × Value)} (h : kvs es = kvOf l) (j : Nat) : (es[j]?).map (fun e => (e.key, e.val)) = (l[j]?).map fun p => (.int .i64 p.1, p.2) := by
  have := congrArg (fun z => z[j]?) h
  simpa [kvs, kvOf] using this
theorem kvs_isKey {es : List MapEntry} {l : List (Int × Value)} (h : kvs es = kvOf l) : ∀ x ∈ es, IsKey (.int .i64) x.key := fun x hx => by
  obtain ⟨j, hj⟩ := List.mem_iff_getElem?.1 hx
  have := kvs_get h j
  rw [hj] at this
  cases hl : l[j]? with
  | none => rw [hl] at this; cases this
  | some p =>
    rw [hl] at this
    simp at this
    rw [this.1]
    rfl
theorem keys_nodup {es : Array MapEntry} {clock : Nat} {l : List (Int × Value)} (hs : Stamped es clock) (h : kvs es.toList = kvOf l) : (l.map (·.1)).Nodup := by
  have h1 := hs.2.2
  rw [kvs_keys h] at h1
  have e : (l.map fun p => Value.int .i64 p.1) = (l.map (·.1)).map (Value.int .i64) := by rw [List.map_map]; rfl
  rw [e] at h1
  exact nodup_of_map _ h1
theorem IMap.nodup {w : World} {b : Nat} {l : List (Int × Value)} (h : IMap w b l) : (l.map (·.1)).Nodup := by
  obtain ⟨es, clock, _, hs, hk⟩ := h
  exact keys_nodup hs hk
theorem IMap.lt {w : World} {b : Nat} {l : List (Int × Value)} (h : IMap w b l) : b < w.heap.size := by
  obtain ⟨es, clock, hb, _⟩ := h
  exact (Array.getElem?_eq_some_iff.1 hb).1
theorem IMap.keep {w w' : World} {b : Nat} {l : List (Int × Value)} (h : IMap w b l) (hb : w'.heap[b]? = w.heap[b]?) : IMap w' b l := by
  obtain ⟨es, clock, h1, h2⟩ := h
  exact ⟨es, clock, hb.trans h1, h2⟩
theorem setBlock_turn (w : World) (b : Nat) (o : Obj) : (setBlock w b o).os = w.os ∧ (setBlock w b o).tape = w.tape ∧ (setBlock w b o).output = w.output ∧ (setBlock w b o).heap.size = w.heap.size ∧ ∀ k, k ≠ b → (setBlock w b o).heap[k]? = w.heap[k]? := by
  refine ⟨rfl, rfl, rfl, by simp [setBlock], fun k hk => ?_⟩
  show (w.heap.setIfInBounds b o)[k]? = w.heap[k]?
  rw [Array.getElem?_setIfInBounds_ne (fun e => hk e.symm)]
theorem look_none {l : List (Int × Value)} {n : Int} : look l n = none ↔ ∀ p ∈ l, p.1 ≠ n := by
  unfold look
  rw [Option.map_eq_none_iff, List.find?_eq_none]
  simp
theorem look_mem {l : List (Int × Value)} {n : Int} {v : Value} (h : look l n = some v) : (n, v) ∈ l := by
  unfold look at h
  rw [Option.map_eq_some_iff] at h
  obtain ⟨p, hp, rfl⟩ := h
  have h1 := List.mem_of_find?_eq_some hp
  have h2 := List.find?_some hp
  simp at h2
  rw [← h2]
  exact h1
theorem look_some {l : List (Int × Value)} (hn : (l.map (·.1)).Nodup) {n : Int} {v : Value} (h : (n, v) ∈ l) : look l n = some v := by
  induction l with
  | nil => cases h
  | cons p l ih =>
    rw [List.map_cons, List.nodup_cons] at hn
    unfold look
    rw [List.find?_cons]
    rcases List.mem_cons.1 h with e | h
    · subst e
      simp
    · have hne : p.1 ≠ n := fun e => hn.1 (by rw [e]; exact List.mem_map.2 ⟨(n, v), h, rfl⟩)
      have : (p.1 == n) = false := by simpa using hne
      rw [this]
      exact ih hn.2 h
theorem find_cases {es : Array MapEntry} {clock : Nat} {l : List (Int × Value)} (hs : Stamped es clock) (h : kvs es.toList = kvOf l) (n : Int) :
    (look l n = none ∧ Instr.findNow (.int .i64) (.int .i64 n) es.toList 0 = some none ∧ ∀ x ∈ es.toList, x.key ≠ .int .i64 n) ∨
    ∃ j e, look l n = some e.val ∧ Instr.findNow (.int .i64) (.int .i64 n) es.toList 0 = some (some (j, e.val)) ∧ es[j]? = some e ∧ e.key = .int .i64 n ∧ l[j]? = some (n, e.val) := by
  have hkey : IsKey (.int .i64) (.int .i64 n) := rfl
  rcases findNow_spec (k := .int .i64 n) hkey es.toList 0 (kvs_isKey h) with ⟨h1, h2⟩ | ⟨j, e, h1, h2, h3⟩
  · left
    refine ⟨look_none.2 fun p hp e => ?_, h1, h2⟩
    obtain ⟨j, hj⟩ := List.mem_iff_getElem?.1 hp
    have := kvs_get h j
    rw [hj] at this
    cases hx : es.toList[j]? with
    | none => rw [hx] at this; cases this
    | some x =>
      rw [hx] at this
      simp at this
      exact h2 x (List.mem_of_getElem? hx) (by rw [this.1, e])
  · right
    have hl : l[j]? = some (n, e.val) := by
      have := kvs_get h j
      rw [h2] at this
      cases hx : l[j]? with
      | none => rw [hx] at this; cases this
      | some p =>
        rw [hx] at this
        simp [h3] at this
        obtain ⟨a, c⟩ := p
        simp at this
        rw [← this.1, ← this.2]
    refine ⟨j, e, look_some (keys_nodup hs h) (List.mem_of_getElem? hl), by simpa using h1, by simpa using h2, h3, hl⟩

section
variable {P : Program} {w : World} {b : Nat} {l : List (Int × Value)} {t k e : TypeId}
/-- A map is asked. -/
theorem run_look (ht : P.underlying t = some (.map k e)) (hk : P.underlying k = some (.int .i64)) {z : Value} (hz : (zeroValue e).run P w = .ok z w) (h : IMap w b l) (n : Int) :
    (Instr.lookup t (.map (some b)) (.int .i64 n) false).run P w = .ok ((look l n).getD z) w := by
  obtain ⟨es, clock, hb, hs, hl⟩ := h
  have hkey : IsKey (.int .i64) (.int .i64 n) := rfl
  rcases find_cases hs hl n with ⟨h1, h2, _⟩ | ⟨j, x, h1, h2, _⟩
  · simp [Instr.lookup, run_underlying ht, MapKept.run_getObj_map hb, run_checkKey hk hkey, run_findKey hk h2, hz, h1, Result.andThen]
  · simp [Instr.lookup, run_underlying ht, MapKept.run_getObj_map hb, run_checkKey hk hkey, run_findKey hk h2, h1, Result.andThen]
theorem run_look_ok (ht : P.underlying t = some (.map k e)) (hk : P.underlying k = some (.int .i64)) {z : Value} (hz : (zeroValue e).run P w = .ok z w) (h : IMap w b l) (n : Int) :
    (Instr.lookup t (.map (some b)) (.int .i64 n) true).run P w = .ok (.tuple #[(look l n).getD z, .bool (look l n).isSome]) w := by
  obtain ⟨es, clock, hb, hs, hl⟩ := h
  have hkey : IsKey (.int .i64) (.int .i64 n) := rfl
  rcases find_cases hs hl n with ⟨h1, h2, _⟩ | ⟨j, x, h1, h2, _⟩
  · simp [Instr.lookup, run_underlying ht, MapKept.run_getObj_map hb, run_checkKey hk hkey, run_findKey hk h2, hz, h1, Result.andThen]
  · simp [Instr.lookup, run_underlying ht, MapKept.run_getObj_map hb, run_checkKey hk hkey, run_findKey hk h2, h1, Result.andThen]
/-- A new map. -/
theorem imap_made (w : World) : IMap (w.alloc (.map #[] 0)) w.heap.size [] := ⟨#[], 0, (heap_alloc w _).1, stamped_empty 0, rfl⟩
theorem any_none {n : Int} (h : look l n = none) : l.any (fun p => p.1 == n) = false := by
  rw [look_none] at h
  simpa using h
theorem any_some {n : Int} {v : Value} (h : look l n = some v) : l.any (fun p => p.1 == n) = true := by
  have := look_mem h
  simp only [List.any_eq_true, beq_iff_eq]
  exact ⟨_, this, rfl⟩
theorem set_map (hn : (l.map (·.1)).Nodup) {n : Int} {v u : Value} {j : Nat} (h : l[j]? = some (n, u)) : l.map (fun p => if p.1 = n then (n, v) else p) = l.set j (n, v) := by
  apply List.ext_getElem?
  intro i
  rw [List.getElem?_map, List.getElem?_set]
  by_cases hij : j = i
  · subst hij
    have hl : j < l.length := (List.getElem?_eq_some_iff.1 h).1
    rw [if_pos rfl, if_pos hl, h]
    simp
  · rw [if_neg hij]
    cases hi : l[i]? with
    | none => rfl
    | some p =>
      have hne : p.1 ≠ n := fun e => by
        have hlt : j < (l.map (·.1)).length := by rw [List.length_map]; exact (List.getElem?_eq_some_iff.1 h).1
        refine hij ((List.getElem?_inj hlt hn).1 ?_)
        rw [List.getElem?_map, List.getElem?_map, h, hi]
        simp [e]
      simp [hne]
theorem filter_erase (hn : (l.map (·.1)).Nodup) {n : Int} {u : Value} {j : Nat} (h : l[j]? = some (n, u)) : delL l n = l.eraseIdx j := by
  induction l generalizing j with
  | nil => cases h
  | cons p l ih =>
    rw [List.map_cons, List.nodup_cons] at hn
    cases j with
    | zero =>
      simp at h
      subst h
      unfold delL
      rw [List.filter_cons]
      simp
      intro a c hac e
      exact hn.1 (by rw [← e]; exact List.mem_map.2 ⟨(a, c), hac, rfl⟩)
    | succ j =>
      simp at h
      have hne : p.1 ≠ n := fun e => hn.1 (by rw [e]; exact List.mem_map.2 ⟨(n, u), List.mem_of_getElem? h, rfl⟩)
      have := ih hn.2 h
      unfold delL at this ⊢
      rw [List.filter_cons]
      simp [hne, this]
theorem kvs_modify {es : Array MapEntry} {j : Nat} {n : Int} {v : Value} (h : kvs es.toList = kvOf l) (hj : j < l.length) : kvs (es.modify j fun e => { e with key := .int .i64 n, val := v }).toList = kvOf (l.set j (n, v)) := by
  apply List.ext_getElem?
  intro i
  have := kvs_get h i
  simp only [kvs, kvOf, List.getElem?_map, Array.getElem?_toList, Array.getElem?_modify, List.getElem?_set] at this ⊢
  by_cases hij : j = i
  · subst hij
    have hl : l[j]? = some l[j] := List.getElem?_eq_getElem hj
    rw [hl] at this
    cases hx : es[j]? with
    | none => rw [hx] at this; cases this
    | some x => simp [hj]
  · simp only [if_neg hij]
    exact this
/-- A value is laid under a key. -/
theorem run_put (ht : P.underlying t = some (.map k e)) (hk : P.underlying k = some (.int .i64)) (h : IMap w b l) (n : Int) (v : Value) :
    ∃ o, (Instr.mapUpdate t (.map (some b)) (.int .i64 n) v).run P w = .ok () (setBlock w b o) ∧ IMap (setBlock w b o) b (putL l n v) := by
  obtain ⟨es, clock, hb, hs, hl⟩ := h
  have hkey : IsKey (.int .i64) (.int .i64 n) := rfl
  rcases find_cases hs hl n with ⟨h1, h2, h3⟩ | ⟨j, x, h1, h2, hj, h4, h5⟩
  · refine ⟨.map (es.push { key := .int .i64 n, val := v, born := clock }) (clock + 1), ?_, _, _, (heap_set hb).1, stamped_push hs h3, ?_⟩
    · simp [Instr.mapUpdate, run_underlying ht, MapKept.run_getObj_map hb, run_checkKey hk hkey, run_findKey hk h2, MapKept.run_setObj_map _ hb, Result.andThen, setBlock]
    · unfold putL
      rw [any_none h1, if_neg (by decide)]
      simp [kvs, kvOf] at hl ⊢
      exact hl
  · have hkk : ∀ e', es[j]? = some e' → ({ e' with key := .int .i64 n, val := v } : MapEntry).key = e'.key := fun e' he' => by rw [hj] at he'; cases he'; exact h4.symm
    refine ⟨.map (es.modify j (fun e => { e with key := .int .i64 n, val := v })) clock, ?_, _, _, (heap_set hb).1, stamped_modify hs _ _ (fun _ _ => rfl) (fun e' _ he' => hkk e' he'), ?_⟩
    · simp [Instr.mapUpdate, run_underlying ht, MapKept.run_getObj_map hb, run_checkKey hk hkey, run_findKey hk h2, hj, h4, run_keyThatStays hkey, MapKept.run_setObj_map _ hb, Result.andThen, setBlock]
    · unfold putL
      rw [any_some h1, if_pos rfl, set_map (keys_nodup hs hl) h5]
      exact kvs_modify hl (List.getElem?_eq_some_iff.1 h5).1
/-- A key is struck. -/
theorem run_del {ty : TypeId} (ht : P.underlying t = some (.map k e)) (hk : P.underlying k = some (.int .i64)) (h : IMap w b l) (n : Int) :
    ∃ o, (Builtin.delete_ #[t, k] ty #[.map (some b), .int .i64 n]).run P w = .ok (.tuple #[]) (setBlock w b o) ∧ IMap (setBlock w b o) b (delL l n) := by
  obtain ⟨es, clock, hb, hs, hl⟩ := h
  have hkey : IsKey (.int .i64) (.int .i64 n) := rfl
  rcases find_cases hs hl n with ⟨h1, h2, h3⟩ | ⟨j, x, h1, h2, hj, h4, h5⟩
  · refine ⟨.map es clock, ?_, _, _, (heap_set hb).1, hs, ?_⟩
    · simp [Builtin.delete_, run_underlying ht, MapKept.run_getObj_map hb, run_checkKey hk hkey, run_findKey hk h2, MapKept.run_setObj_map _ hb, Result.andThen, setBlock]
    · have : delL l n = l := by
        unfold delL
        rw [List.filter_eq_self]
        intro p hp
        have := look_none.1 h1 p hp
        simpa using this
      rw [this]
      exact hl
  · refine ⟨.map (es.eraseIdxIfInBounds j) clock, ?_, _, _, (heap_set hb).1, stamped_erase hs j, ?_⟩
    · simp [Builtin.delete_, run_underlying ht, MapKept.run_getObj_map hb, run_checkKey hk hkey, run_findKey hk h2, MapKept.run_setObj_map _ hb, Result.andThen, setBlock]
    · rw [filter_erase (keys_nodup hs hl) h5]
      have hjs : j < es.size := (Array.getElem?_eq_some_iff.1 hj).1
      have hsub : (es.eraseIdxIfInBounds j).toList = es.toList.eraseIdx j := by
        unfold Array.eraseIdxIfInBounds
        rw [dif_pos hjs]
        simp
      rw [hsub]
      simp only [kvs, kvOf] at hl ⊢
      rw [erase_map, erase_map, hl]
end
/-- An iterator at block r goes over the map at block b, which has l; todo is still to come. -/
def IRange (w : World) (r b : Nat) (l todo : List (Int × Value)) : Prop :=
  ∃ es clock since seen c0, w.heap[b]? = some (.map es clock) ∧ Stamped es clock ∧ kvs es.toList = kvOf l ∧ w.heap[r]? = some (.mapIter (some b) since seen c0) ∧ (∀ x ∈ es.toList, x.born < since) ∧ since ≤ c0 ∧ since ≤ clock ∧ kvs (leftOf es seen).toList = kvOf todo
theorem IRange.map {w : World} {r b : Nat} {l todo : List (Int × Value)} (h : IRange w r b l todo) : IMap w b l := by
  obtain ⟨es, clock, since, seen, c0, h1, h2, h3, _⟩ := h
  exact ⟨es, clock, h1, h2, h3⟩
theorem IRange.keep {w w' : World} {r b : Nat} {l todo : List (Int × Value)} (h : IRange w r b l todo) (hb : w'.heap[b]? = w.heap[b]?) (hr : w'.heap[r]? = w.heap[r]?) : IRange w' r b l todo := by
  obtain ⟨es, clock, since, seen, c0, h1, h2, h3, h4, h5⟩ := h
  exact ⟨es, clock, since, seen, c0, hb.trans h1, h2, h3, hr.trans h4, h5⟩
theorem IRange.lt {w : World} {r b : Nat} {l todo : List (Int × Value)} (h : IRange w r b l todo) : r < w.heap.size ∧ b < w.heap.size ∧ r ≠ b := by
  obtain ⟨es, clock, since, seen, c0, h1, h2, h3, h4, h5⟩ := h
  refine ⟨(Array.getElem?_eq_some_iff.1 h4).1, (Array.getElem?_eq_some_iff.1 h1).1, fun e => ?_⟩
  rw [e, h1] at h4
  cases h4
theorem kvOf_sub {es : List MapEntry} {l : List (Int × Value)} (h : kvs es = kvOf l) {es' : List MapEntry} {l' : List (Int × Value)} (h' : kvs es' = kvOf l') (hs : es'.Sublist es) : ∀ p ∈ l', p ∈ l := fun p hp => by
  have h1 : (Value.int .i64 p.1, p.2) ∈ kvOf l' := List.mem_map.2 ⟨p, hp, rfl⟩
  rw [← h'] at h1
  have h2 : (Value.int .i64 p.1, p.2) ∈ kvOf l := by
    rw [← h]
    exact (hs.map _).subset h1
  obtain ⟨q, hq, e⟩ := List.mem_map.1 h2
  simp at e
  have : q = p := Prod.ext e.1 e.2
  rw [← this]
  exact hq
theorem IRange.sub {w : World} {r b : Nat} {l todo : List (Int × Value)} (h : IRange w r b l todo) : ∀ p ∈ todo, p ∈ l := by
  obtain ⟨es, clock, since, seen, c0, h1, h2, h3, h4, h5, h6, h7, h8⟩ := h
  refine kvOf_sub h3 h8 ?_
  unfold leftOf
  rw [Array.toList_filter]
  exact List.filter_sublist
theorem inj_of_nodup {α β : Type} (f : α → β) {l : List α} (hn : (l.map f).Nodup) {x y : α} (hx : x ∈ l) (hy : y ∈ l) (e : f x = f y) : x = y := by
  obtain ⟨i, hi⟩ := List.mem_iff_getElem?.1 hx
  obtain ⟨j, hj⟩ := List.mem_iff_getElem?.1 hy
  have hlt : i < (l.map f).length := by rw [List.length_map]; exact (List.getElem?_eq_some_iff.1 hi).1
  have h1 : (l.map f)[i]? = (l.map f)[j]? := by rw [List.getElem?_map, List.getElem?_map, hi, hj]; simp [e]
  have := (List.getElem?_inj hlt hn).1 h1
  rw [← this, hi] at hj
  injection hj
/-- Is a key the number n? -/
def keyIs (n : Int) (v : Value) : Bool := match v with
  | .int .i64 m => m == n
  | _ => false
theorem keyIs_iff {n : Int} {v : Value} : keyIs n v = true ↔ v = .int .i64 n := by
  unfold keyIs
  split
  · rename_i m
    simp
  · rename_i h
    simp
    intro e
    exact h n e
theorem nodup_filter_key {l : List MapEntry} (hb : (l.map (·.born)).Nodup) (hk : (l.map (·.key)).Nodup) {e : MapEntry} (he : e ∈ l) {n : Int} (hn : e.key = .int .i64 n) (p : MapEntry → Bool) : l.filter (fun x => p x && !(x.born == e.born)) = (l.filter p).filter fun x => !keyIs n x.key := by
  rw [List.filter_filter]
  apply List.filter_congr
  intro x hx
  by_cases h : x = e
  · subst h
    simp [keyIs_iff.2 hn]
  · have h1 : (x.born == e.born) = false := by
      simp only [beq_eq_false_iff_ne]
      exact fun q => h (inj_of_nodup _ hb hx he q)
    have h2 : keyIs n x.key = false := by
      rw [Bool.eq_false_iff]
      exact fun q => h (inj_of_nodup _ hk hx he (by show x.key = e.key; rw [keyIs_iff.1 q, hn]))
    simp [h1, h2]
theorem kvs_filter {es : List MapEntry} {l : List (Int × Value)} (h : kvs es = kvOf l) (n : Int) : kvs (es.filter fun x => !keyIs n x.key) = kvOf (delL l n) := by
  induction es generalizing l with
  | nil =>
    cases l with
    | nil => rfl
    | cons p l => simp [kvs, kvOf] at h
  | cons x es ih =>
    cases l with
    | nil => simp [kvs, kvOf] at h
    | cons p l =>
      simp only [kvs, kvOf, List.map_cons, List.cons.injEq, Prod.mk.injEq] at h
      obtain ⟨⟨h1, h2⟩, h3⟩ := h
      have h4 := ih h3
      unfold delL at h4 ⊢
      rw [List.filter_cons, List.filter_cons]
      have hk : keyIs n x.key = (p.1 == n) := by rw [h1]; rfl
      rw [hk]
      cases hb : (p.1 == n) with
      | true => simpa using h4
      | false =>
        simp only [kvs, kvOf, Bool.not_false, if_true, List.map_cons] at h4 ⊢
        rw [h4, h1, h2]
section
variable {P : Program} {w : World} {b : Nat} {l todo : List (Int × Value)} {t k e : TypeId}
theorem run_range (ht : P.underlying t = some (.map k e)) (h : IMap w b l) :
    ∃ o, (Instr.range t (.map (some b))).run P w = .ok (.pointer (some ⟨w.heap.size, 0, none⟩)) (w.alloc o) ∧ IRange (w.alloc o) w.heap.size b l l := by
  have hlt := h.lt
  obtain ⟨es, clock, hb, hs, hl⟩ := h
  refine ⟨_, run_range_map w t k e b es clock ht hb, es, clock, clock, #[], clock, ((heap_alloc w _).2 b hlt).trans hb, hs, hl, (heap_alloc w _).1, hs.1, Nat.le_refl _, Nat.le_refl _, ?_⟩
  have : leftOf es #[] = es := by simp [leftOf]
  rw [this]
  exact hl
theorem run_next_i (ty : TypeId) {r : Nat} (h : IRange w r b l todo) :
    (todo = [] ∧ (Instr.next (.pointer (some ⟨r, 0, none⟩)) false ty).run P w = .ok (.tuple #[.bool false]) w) ∨
    ∃ n v w1 o, (n, v) ∈ todo ∧ (w1 = w ∨ w1 = w.drew) ∧ (Instr.next (.pointer (some ⟨r, 0, none⟩)) false ty).run P w = .ok (.tuple #[.bool true, .int .i64 n, v]) (setBlock w1 r o) ∧ IRange (setBlock w1 r o) r b l (delL todo n) ∧ (Instr.entry (.pointer (some ⟨r, 0, none⟩))).run P (setBlock w1 r o) = .ok (.tuple #[.int .i64 n, v]) (setBlock w1 r o) := by
  have hne := h.lt.2.2
  obtain ⟨es, clock, since, seen, c0, h1, h2, h3, h4, h5, h6, h7, h8⟩ := h
  rcases run_next_at (P := P) w ty r b since c0 seen es clock h4 h1 h5 h6 with ⟨g1, g2⟩ | ⟨e, he, w1, g1, g2⟩
  · left
    refine ⟨?_, g2⟩
    have : leftOf es seen = #[] := Array.eq_empty_of_size_eq_zero g1
    rw [this] at h8
    cases todo with
    | nil => rfl
    | cons p l => simp [kvs, kvOf] at h8
  · right
    have hmem : e ∈ es.toList := by
      unfold leftOf at he
      rw [Array.toList_filter] at he
      exact (List.mem_filter.1 he).1
    obtain ⟨j, hj⟩ := List.mem_iff_getElem?.1 he
    have hg := kvs_get h8 j
    rw [hj] at hg
    cases hx : todo[j]? with
    | none => rw [hx] at hg; cases hg
    | some p =>
      rw [hx] at hg
      simp at hg
      obtain ⟨hk, hv⟩ := hg
      rw [hk, hv] at g2
      have hb1 : w1.heap[b]? = some (.map es clock) := by rcases g1 with rfl | rfl <;> exact h1
      have hr1 : w1.heap[r]? = some (.mapIter (some b) since seen c0) := by rcases g1 with rfl | rfl <;> exact h4
      have hr2 : (setBlock w1 r (.mapIter (some b) since (seen.push e.born) clock)).heap[r]? = some (.mapIter (some b) since (seen.push e.born) clock) := (heap_set hr1).1
      have hb2 : (setBlock w1 r (.mapIter (some b) since (seen.push e.born) clock)).heap[b]? = some (.map es clock) := ((heap_set hr1).2 b (Ne.symm hne)).trans hb1
      refine ⟨p.1, p.2, w1, _, List.mem_of_getElem? hx, g1, g2, ⟨es, clock, since, seen.push e.born, clock, hb2, h2, h3, hr2, h5, h7, h7, ?_⟩, ?_⟩
      · have e1 : (leftOf es (seen.push e.born)).toList = (leftOf es seen).toList.filter fun x => !keyIs p.1 x.key := by
          unfold leftOf
          rw [Array.toList_filter, Array.toList_filter, ← nodup_filter_key h2.2.1 h2.2.2 hmem hk]
          apply List.filter_congr
          intro x _
          simp [Array.contains_push, Bool.or_comm]
          rw [Bool.and_comm]
          rfl
        rw [e1]
        exact kvs_filter h8 p.1
      · rw [run_entry_at _ r b since seen es clock e hr2 hb2 hmem h2.2.1, hk, hv]
end
section
variable {P : Program} {w : World} {ops : Array Oper} {rest : List Oper} {o : Oper} {a : Act} {Q : Exit → Act → World → Prop} {b : Nat} {l todo : List (Int × Value)} {t k e : TypeId}
/-- 'm[n] = v', for the walk. -/
theorem wpList_put (hg : o.guard = none) (mo xo vo : Operand) (t : TypeId) (hop : o.op = Op.mapUpdate t mo xo vo) (k e : TypeId) (ht : P.underlying t = some (.map k e)) (hk : P.underlying k = some (.int .i64)) (b : Nat) (l : List (Int × Value)) (n : Int) (v : Value)
    (hm : a.eval mo = .map (some b)) (hx : a.eval xo = .int .i64 n) (hv : a.eval vo = v) (h : IMap w b l)
    (hK : ∀ o', IMap (setBlock w b o') b (putL l n v) → wpList P ops Q rest (a.put o.dst undef) (setBlock w b o')) : wpList P ops Q (o :: rest) a w := by
  refine wpList_plain hg fun K' hK' => ?_
  obtain ⟨o', hrun, h1⟩ := run_put ht hk h n v
  unfold Oper.wp
  simp [execOp, hop, hm, hx, hv, hrun, Result.andThen]
  exact hK' _ _ (hK o' h1)
theorem step_put {K : Act → World → Prop} {E : Prop} (hg : o.guard = none) (mo xo vo : Operand) (t : TypeId) (hop : o.op = Op.mapUpdate t mo xo vo) (k e : TypeId) (ht : P.underlying t = some (.map k e)) (hk : P.underlying k = some (.int .i64)) (b : Nat) (l : List (Int × Value)) (n : Int) (v : Value)
    (hm : a.eval mo = .map (some b)) (hx : a.eval xo = .int .i64 n) (hv : a.eval vo = v) (h : IMap w b l)
    (hK : ∀ o', IMap (setBlock w b o') b (putL l n v) → K (a.put o.dst undef) (setBlock w b o')) : if Region.wanted o (yielded ops a.tmps) = true then Oper.wp P o a w K Q else E := by
  have hw : Region.wanted o (yielded ops a.tmps) = true := by simp [Region.wanted, hg]
  rw [if_pos hw]
  obtain ⟨o', hrun, h1⟩ := run_put ht hk h n v
  unfold Oper.wp
  simp [execOp, hop, hm, hx, hv, hrun, Result.andThen]
  exact hK o' h1
theorem wpList_del (hg : o.guard = none) (mo xo : Operand) (t k : TypeId) (hop : o.op = Op.call { callee := Callee.builtin Builtin.delete, args := #[mo, xo], argTypes := #[t, k] }) (e : TypeId) (ht : P.underlying t = some (.map k e)) (hk : P.underlying k = some (.int .i64)) (b : Nat) (l : List (Int × Value)) (n : Int)
    (hm : a.eval mo = .map (some b)) (hx : a.eval xo = .int .i64 n) (h : IMap w b l)
    (hK : ∀ o', IMap (setBlock w b o') b (delL l n) → wpList P ops Q rest (a.put o.dst (.tuple #[])) (setBlock w b o')) : wpList P ops Q (o :: rest) a w := by
  refine wpList_plain hg fun K' hK' => ?_
  obtain ⟨o', hrun, h1⟩ := run_del (ty := o.type) ht hk h n
  unfold Oper.wp
  simp [execOp, hop, resolve, invoke, builtin, hm, hx, hrun, Result.andThen]
  exact hK' _ _ (hK o' h1)
theorem wpList_range (hg : o.guard = none) (mo : Operand) (t : TypeId) (hop : o.op = Op.range t mo) (k e : TypeId) (ht : P.underlying t = some (.map k e)) (b : Nat) (l : List (Int × Value)) (hm : a.eval mo = .map (some b)) (h : IMap w b l)
    (hK : ∀ o', IRange (w.alloc o') w.heap.size b l l → wpList P ops Q rest (a.put o.dst (.pointer (some ⟨w.heap.size, 0, none⟩))) (w.alloc o')) : wpList P ops Q (o :: rest) a w := by
  refine wpList_plain hg fun K' hK' => ?_
  obtain ⟨o', hrun, h1⟩ := run_range ht h
  unfold Oper.wp
  simp [execOp, hop, hm, hrun, Result.andThen]
  exact hK' _ _ (hK o' h1)
theorem wpList_next (hg : o.guard = none) (it : Operand) (hop : o.op = Op.next it false) (r b : Nat) (l todo : List (Int × Value)) (hit : a.eval it = .pointer (some ⟨r, 0, none⟩)) (h : IRange w r b l todo)
    (hDone : todo = [] → wpList P ops Q rest (a.put o.dst (.tuple #[.bool false])) w)
    (hMore : ∀ n v w1 o', (n, v) ∈ todo → (w1 = w ∨ w1 = w.drew) → IRange (setBlock w1 r o') r b l (delL todo n) → (Instr.entry (.pointer (some ⟨r, 0, none⟩))).run P (setBlock w1 r o') = .ok (.tuple #[.int .i64 n, v]) (setBlock w1 r o') →
      wpList P ops Q rest (a.put o.dst (.tuple #[.bool true, .int .i64 n, v])) (setBlock w1 r o')) : wpList P ops Q (o :: rest) a w := by
  refine wpList_plain hg fun K' hK' => ?_
  unfold Oper.wp
  rcases run_next_i (P := P) o.type h with ⟨h0, hrun⟩ | ⟨n, v, w1, o', hm, hw, hrun, hrg, hen⟩
  · simp [execOp, hop, hit, hrun, Result.andThen]
    exact hK' _ _ (hDone h0)
  · simp [execOp, hop, hit, hrun, Result.andThen]
    exact hK' _ _ (hMore n v w1 o' hm hw hrg hen)
end
end Go.Proofs.Ytmchbciofdokfaa
