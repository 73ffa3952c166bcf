/- slices.IndexFunc, slices.DeleteFunc at []api.Open, by a function that only looks. -/
import Derived.Test.YtmchbciofdokfaaW8
import Derived.Lib.SliceRun
namespace Go.Proofs.Ytmchbciofdokfaa
open Go.RowKit
set_option linter.unusedSimpArgs false
set_option linter.unusedVariables false

theorem opnVals_len (l : List Opn) : (opnVals l).length = l.length * 3 := by rw [opnVals_length]; omega
theorem opnVals_at (l : List Opn) (i : Nat) (h : i < l.length) : (opnVals l)[i * 3]? = some (.int .i64 l[i].unit) ∧ (opnVals l)[i * 3 + 1]? = some (.int .i64 l[i].next) ∧ (opnVals l)[i * 3 + 2]? = some (.string l[i].ready) := by
  have hl := opnVals_len l
  obtain ⟨g0, g1, g2⟩ := opnVals_get l i h
  have key : ∀ t v, t < (opnVals l).length → (opnVals l).getD t undef = v → (opnVals l)[t]? = some v := fun t v ht e => by
    rw [List.getD_eq_getElem?_getD, List.getElem?_eq_getElem ht] at e
    rw [List.getElem?_eq_getElem ht]
    simpa using e
  exact ⟨key _ _ (by omega) g0, key _ _ (by omega) g1, key _ _ (by omega) g2⟩
/-- What a predicate keeps. -/
def keepO (P : Opn → Bool) (l : List Opn) : List Opn := l.filter fun o => !P o
theorem keepO_yes {P : Opn → Bool} {l : List Opn} {o : Opn} (h : P o = false) : keepO P (l ++ [o]) = keepO P l ++ [o] := by simp [keepO, List.filter_append, h]
theorem keepO_no {P : Opn → Bool} {l : List Opn} {o : Opn} (h : P o = true) : keepO P (l ++ [o]) = keepO P l := by simp [keepO, List.filter_append, h]
theorem keepO_all {P : Opn → Bool} {l : List Opn} (h : ∀ o ∈ l, P o = false) : keepO P l = l := List.filter_eq_self.2 fun o ho => by rw [h o ho]; rfl
/-- A function that looks at an open unit. -/
def Looks (f : Nat) (P : Opn → Bool) : Prop := ∀ (o : Opn) (w : World), Calls Try.prog f #[.agg #[.int .i64 o.unit, .int .i64 o.next, .string o.ready]] w fun e w' => e = .returned (.bool (P o)) ∧ New w w'
theorem own_form {w : World} {base : Nat} {e : TypeId} {sz : Nat} {v : Value} {n : Nat} {xs : List Value} (h : w.ownsRow base e sz v n xs) (hn : 0 < n) : ∃ g cap cur, v = .slice (some ⟨g, 0, none⟩) n cap ∧ w.heap[g]? = some (.cells cur e (0, 0)) ∧ n ≤ cap ∧ cap ≤ maxLen ∧ cur.size = cap * sz ∧ cur.toList.take (n * sz) = xs := by
  rcases h.2 with ⟨_, h0⟩ | ⟨g, cap, cur, h1, _, h2⟩
  · omega
  · exact ⟨g, cap, cur, h1, h2⟩
theorem own_cell {w : World} {base : Nat} {e : TypeId} {sz : Nat} {g n cap : Nat} {xs : List Value} (h : w.ownsRow base e sz (.slice (some ⟨g, 0, none⟩) n cap) n xs) (t : Nat) (ht : t < xs.length) : w.cell? ⟨g, t, none⟩ = xs[t]? := by
  have hl := h.1
  rcases h.2 with ⟨h0, _⟩ | ⟨g', cap', cur, h1, _, h2, h3, h4, h5, h6⟩
  · cases h0
  · injection h1 with h1 _ _
    injection h1 with h1
    injection h1 with h1
    subst h1
    rw [cells_of h2 t, ← h6, List.getElem?_take, if_pos (by omega), Array.getElem?_toList]

theorem Raw.sets {b : Nat} {t : TypeId} {n : Nat} : ∀ (L : List Value) (o : Nat) (w : World) (f : Nat → Value), Raw w b t n f → (∃ f', Raw (w.setCells b o L) b t n f' ∧ ∀ i, i < o → f' i = f i) ∧ Turn (· = b) w (w.setCells b o L)
  | [], o, w, f, h => ⟨⟨f, h, fun _ _ => rfl⟩, Turn.refl _ _⟩
  | v :: L, o, w, f, h => by
    obtain ⟨⟨f', h1, h2⟩, h3⟩ := Raw.sets L (o + 1) (w.setCell ⟨b, o, none⟩ v) (upd f o v) (h.set o v)
    exact ⟨⟨f', h1, fun i hi => by rw [h2 i (by omega), upd_other _ _ (by omega)]⟩, (Turn.setCell (S := (· = b)) (p := ⟨b, o, none⟩) (Turn.refl _ w) rfl v).trans h3⟩
theorem run_zeroO (w : World) : (zeroValue 47).run Try.prog w = .ok (.agg #[.int .i64 0, .int .i64 0, .string ⟨#[]⟩]) w := by
  obtain ⟨i0, hi, hz0, hz1, hz2⟩ := info_parts infoOpn
  simp [zeroValue, typeInfo, hi, hz0]
  rfl
/-- clear(s) on some of a row of opens: what stands ahead stays. -/
theorem run_clearO {w : World} {b N o n c : Nat} {f : Nat → Value} (hr : Raw w b 47 N f) (hn : 0 < n) (ho : o + n * 3 ≤ N) :
    ∃ w' f', (∀ ty, (Builtin.clear_ #[34] ty #[.slice (some ⟨b, o, none⟩) n c]).run Try.prog w = .ok (.tuple #[]) w') ∧ Raw w' b 47 N f' ∧ (∀ i, i < o → f' i = f i) ∧ Turn (· = b) w w' := by
  have hz : (Value.agg #[.int .i64 0, .int .i64 0, .string ⟨#[]⟩]).cells = #[.int .i64 0, .int .i64 0, .string ⟨#[]⟩] := rfl
  have hlen : (Builtin.zeroCells #[Value.int .i64 0, .int .i64 0, .string ⟨#[]⟩] n).toList.length = n * 3 := by simp [Builtin.zeroCells]
  have hone : ∀ v ∈ (Builtin.zeroCells #[Value.int .i64 0, .int .i64 0, .string ⟨#[]⟩] n).toList, v.oneCell' = true := by
    intro v hv
    simp only [Builtin.zeroCells, Array.toList_map, List.mem_map] at hv
    obtain ⟨i, _, rfl⟩ := hv
    have h3 : i % 3 = 0 ∨ i % 3 = 1 ∨ i % 3 = 2 := by omega
    show (#[Value.int .i64 0, .int .i64 0, .string ⟨#[]⟩][i % 3]!).oneCell' = true
    rcases h3 with h | h | h <;> (rw [h]; rfl)
  have hst := run_storeCells_cells (P := Try.prog) b o (Builtin.zeroCells #[Value.int .i64 0, .int .i64 0, .string ⟨#[]⟩] n).toList 0 w (by
    intro j hj
    rw [hlen] at hj
    rw [Nat.add_zero, hr.cell (o + j) (by omega)]; rfl) (by
    intro j hj
    exact hr.frozen _) hone
  simp only [Nat.add_zero] at hst
  obtain ⟨⟨f', h1, h2⟩, h3⟩ := hr.sets (Builtin.zeroCells #[Value.int .i64 0, .int .i64 0, .string ⟨#[]⟩] n).toList o
  refine ⟨_, f', fun ty => ?_, h1, h2, h3⟩
  obtain ⟨m, rfl⟩ : ∃ m, n = m + 1 := ⟨n - 1, by omega⟩
  simp [Builtin.clear_, run_underlying Try.underlying34, run_zeroO, hz, hst]
theorem opnVals_one (l : List Opn) (u : Opn) : opnVals (l ++ [u]) = opnVals l ++ [.int .i64 u.unit, .int .i64 u.next, .string u.ready] := by simp [opnVals]
/-- The row while it is rewritten: j opens looked at, i kept. -/
structure DelO (w1 wr : World) (g N : Nat) (l : List Opn) (P : Opn → Bool) (j i : Nat) : Prop where
  len : i = (keepO P (l.take j)).length
  lt : i < j
  lies : ∃ F, Raw wr g 47 N F ∧ (∀ t, t < i * 3 → (opnVals (keepO P (l.take j)))[t]? = some (F t)) ∧ ∀ t, j * 3 ≤ t → t < l.length * 3 → (opnVals l)[t]? = some (F t)
  turn : Turn (· = g) w1 wr
theorem DelO.new {w1 wr w2 : World} {g N j i : Nat} {l : List Opn} {P : Opn → Bool} (h : DelO w1 wr g N l P j i) (hn : New wr w2) : DelO w1 w2 g N l P j i := by
  obtain ⟨h1, h2, ⟨F, h3, h4⟩, h5⟩ := h
  exact ⟨h1, h2, ⟨F, h3.turn (Turn.of_new (S := fun _ => False) hn) (fun h => h), h4⟩, h5.trans (Turn.of_new hn)⟩
theorem take_snocO {α : Type} {l : List α} {j : Nat} (h : j < l.length) : l.take (j + 1) = l.take j ++ [l[j]] := (List.take_append_getElem h).symm
theorem DelO.skip {w1 wr : World} {g N j i : Nat} {l : List Opn} {P : Opn → Bool} (h : DelO w1 wr g N l P j i) (hj : j < l.length) (hm : P l[j] = true) : DelO w1 wr g N l P (j + 1) i := by
  obtain ⟨h1, h2, ⟨F, h3, h4, h6⟩, h5⟩ := h
  have e : keepO P (l.take (j + 1)) = keepO P (l.take j) := by rw [take_snocO hj, keepO_no hm]
  exact ⟨by rw [e]; exact h1, by omega, ⟨F, h3, by rw [e]; exact h4, fun t a b => h6 t (by omega) b⟩, h5⟩
theorem DelO.keep {w1 wr : World} {g N j i : Nat} {l : List Opn} {P : Opn → Bool} (h : DelO w1 wr g N l P j i) (hj : j < l.length) (hm : P l[j] = false) :
    DelO w1 (((wr.setCell ⟨g, i * 3, none⟩ (.int .i64 l[j].unit)).setCell ⟨g, i * 3 + 1, none⟩ (.int .i64 l[j].next)).setCell ⟨g, i * 3 + 2, none⟩ (.string l[j].ready)) g N l P (j + 1) (i + 1) := by
  obtain ⟨h1, h2, ⟨F, h3, h4, h6⟩, h5⟩ := h
  have e : keepO P (l.take (j + 1)) = keepO P (l.take j) ++ [l[j]] := by rw [take_snocO hj, keepO_yes hm]
  have hl : (opnVals (keepO P (l.take j))).length = i * 3 := by rw [opnVals_len, ← h1]
  refine ⟨by rw [e]; simp [h1], by omega, ⟨_, ((h3.set (i * 3) _).set (i * 3 + 1) _).set (i * 3 + 2) _, fun t ht => ?_, fun t a b => ?_⟩, ?_⟩
  · rw [e, opnVals_one]
    rcases Nat.lt_or_ge t (i * 3) with h | h
    · rw [List.getElem?_append_left (by omega), upd_other _ _ (by omega), upd_other _ _ (by omega), upd_other _ _ (by omega)]
      exact h4 t h
    · rw [List.getElem?_append_right (by omega), hl]
      have : t = i * 3 ∨ t = i * 3 + 1 ∨ t = i * 3 + 2 := by omega
      rcases this with rfl | rfl | rfl
      · rw [upd_other _ _ (by omega), upd_other _ _ (by omega), upd_same]; simp
      · rw [upd_other _ _ (by omega), upd_same]; simp
      · rw [upd_same]; simp
  · rw [upd_other _ _ (by omega), upd_other _ _ (by omega), upd_other _ _ (by omega)]
    exact h6 t (by omega) b
  · exact ((h5.setCell (p := ⟨g, i * 3, none⟩) rfl _).setCell (p := ⟨g, i * 3 + 1, none⟩) rfl _).setCell (p := ⟨g, i * 3 + 2, none⟩) rfl _
/-- The row cut to what was kept. -/
theorem Raw.rowO {w : World} {g N c n : Nat} {F : Nat → Value} {xs : List Value} (hr : Raw w g 47 N F) (hN : N = c * 3) (hc : n ≤ c) (hm : c ≤ maxLen) (hx : xs.length = n * 3) (h : ∀ t, t < n * 3 → xs[t]? = some (F t)) :
    w.ownsRow 0 47 3 (.slice (some ⟨g, 0, none⟩) n c) n xs := by
  obtain ⟨cs, h1, h2, h3⟩ := hr
  refine ⟨hx, .inr ⟨g, c, cs, rfl, Nat.zero_le _, h1, hc, hm, by omega, ?_⟩⟩
  apply List.ext_getElem?
  intro t
  rcases Nat.lt_or_ge t (n * 3) with ht | ht
  · rw [List.getElem?_take, if_pos ht, h t ht, Array.getElem?_toList, h3 t (by omega)]
  · rw [List.getElem?_eq_none (by rw [List.length_take]; omega), List.getElem?_eq_none (by omega)]
/-- What DeleteFunc leaves. -/
def DelBack (P : Opn → Bool) (v : Value) (l : List Opn) (w : World) (e : Ending) (w' : World) : Prop :=
  ∃ p c, e = .returned (.slice p (keepO P l).length c) ∧ w'.ownsRow 0 47 3 (.slice p (keepO P l).length c) (keepO P l).length (opnVals (keepO P l)) ∧ (Value.slice p (keepO P l).length c).ownBlock = v.ownBlock ∧ Turn (fun k => v.ownBlock = some k) w w'
set_option maxRecDepth 100000 in
set_option maxHeartbeats 2000000 in
theorem idx_opn35 (P : Opn → Bool) (hf : Looks 35 P) (v : Value) (l : List Opn) (w : World) (h : w.ownsRow 0 47 3 v l.length (opnVals l)) (hl : l.length ≤ 1000000) :
    Calls Try.prog 63 #[v, .func (.func 35) #[] #[]] w fun e w' => New w w' ∧ ((e = .returned (.int .i64 (-1)) ∧ ∀ o ∈ l, P o = false) ∨ ∃ i : Nat, ∃ hi : i < l.length, e = .returned (.int .i64 i) ∧ P l[i] = true ∧ ∀ k, (hk : k < i) → P l[k] = false) := by
  have HO := hid h
  have HF := hid hf
  obtain ⟨q, k, rfl⟩ := own_len h
  clear h hf
  go_enter Try.func63, Try.ntmps63
  go_wp2
  go_loopw [5, 8] (fun _ i wr => ∃ j : Nat, j ≤ l.length ∧ i = .int .i64 j ∧ New w wr ∧ Hid (∀ k, (hk : k < l.length) → k < j → P l[k] = false)) (fun _ i _ => l.length - (intOf i).toNat)
  case atStart => exact ⟨0, Nat.zero_le _, rfl, New.refl _, hid fun k hk h => absurd h (Nat.not_lt_zero _)⟩
  case round =>
    obtain ⟨j, hj, rfl, hn, hall⟩ := hrel
    by_cases hlt : j < l.length
    · have ho := own_old HO.out hn
      obtain ⟨g, cap, cur, e, -⟩ := own_form ho (by omega)
      injection e with e1 e8 e9
      subst e1 e9
      clear e8
      obtain ⟨x0, x1, x2⟩ := opnVals_at l j hlt
      have hlen := opnVals_len l
      have d0 := (own_cell ho (j * 3) (by omega)).trans x0
      have d1 := (own_cell ho (j * 3 + 1) (by omega)).trans x1
      have d2 := (own_cell ho (j * 3 + 2) (by omega)).trans x2
      have HALL : Hid (P l[j] = false → ∀ k, (hk : k < l.length) → k < j + 1 → P l[k] = false) := hid fun h k hk hk2 => by
        rcases Nat.lt_or_ge k j with h' | h'
        · exact hall.out k hk h'
        · obtain rfl : k = j := by omega
          exact h
      have HFOUND : Hid (∀ k, (hk : k < j) → P l[k] = false) := hid fun k hk => hall.out k (by omega) hk
      have HLT := hid hlt
      clear ho x0 x1 x2 hlen hall
      obtain ⟨B, hB⟩ : ∃ B, P l[j] = B := ⟨_, rfl⟩
      have HB := hid hB
      have HFX := hid (HF.out l[j])
      rw [hB] at HFX
      clear hB
      generalize hx : l[j] = x at *
      have HX := hid hx
      clear hx
      go_wp2_with fail
      refine (HFX.out _).mono ?_
      rintro e w2 ⟨rfl, hn2⟩
      have HN2 := hid (hn.trans hn2)
      clear hn hn2
      cases B
      · go_wp2
        go_roundw
        case rel => exact ⟨j + 1, by omega, by go_num, HN2.out, hid (HALL.out HB.out)⟩
        case measure => simp [intOf]; omega
      · go_wp2
        go_ret
        exact ⟨HN2.out, .inr ⟨j, HLT.out, rfl, (congrArg P HX.out).trans HB.out, HFOUND.out⟩⟩
    · obtain rfl : j = l.length := by omega
      go_wp2
      go_ret
      exact ⟨hn, .inl ⟨rfl, fun z hz => by
        obtain ⟨i, hi, rfl⟩ := List.mem_iff_getElem.1 hz
        exact hall.out i hi hi⟩⟩
set_option maxHeartbeats 4000000 in
set_option maxRecDepth 100000 in
theorem del_opn35 (P : Opn → Bool) (hf : Looks 35 P) (v : Value) (l : List Opn) (w : World) (h : w.ownsRow 0 47 3 v l.length (opnVals l)) (hl : l.length ≤ 100000) :
    Calls Try.prog 33 #[v, .func (.func 35) #[] #[]] w (DelBack P v l w) := by
  have HX := hid h
  have HF := hid hf
  obtain ⟨q, k, rfl⟩ := own_len h
  clear h hf
  go_enter Try.func33, Try.ntmps33
  go_wp2_with fail
  refine (idx_opn35 P HF.out _ l w HX.out (by omega)).mono ?_
  rintro e w1 ⟨hn1, ⟨rfl, hno⟩ | ⟨i0, hi0, rfl, hfound, hbefore⟩⟩
  · have HFIN : Hid (keepO P l = l) := hid (keepO_all hno)
    have HN1 := hid hn1
    clear hn1 hno
    go_wp2
    go_ret
    refine ⟨q, k, by rw [HFIN.out]; rfl, ?_, by rw [HFIN.out], Turn.of_new HN1.out⟩
    rw [HFIN.out]
    exact own_old HX.out HN1.out
  · obtain ⟨g, cap, cur, e, hh, g1, g2, g3, g4⟩ := own_form (own_old HX.out hn1) (by omega)
    injection e with e1 _ e3
    subst e1 e3
    have hgl : g < w1.heap.size := (Array.getElem?_eq_some_iff.1 hh).1
    have hF : ∀ t, t < l.length * 3 → (opnVals l)[t]? = some (cur[t]?.getD undef) := fun t ht => by
      rw [← g4, List.getElem?_take, if_pos ht, Array.getElem?_toList, Array.getElem?_eq_getElem (by omega)]
      rfl
    have hI : l.take (i0 + 1) = l.take i0 ++ [l[i0]] := take_snocO hi0
    have hO : keepO P (l.take (i0 + 1)) = l.take i0 := by
      rw [hI, keepO_no hfound, keepO_all]
      intro z hz
      obtain ⟨t, ht, rfl⟩ := List.mem_iff_getElem.1 hz
      rw [List.length_take] at ht
      rw [List.getElem_take]
      exact hbefore t (by omega)
    have S1 : Hid (DelO w1 w1 g (k * 3) l P (i0 + 1) i0) := hid (by
      refine ⟨by rw [hO, List.length_take]; omega, by omega, ⟨fun t => cur[t]?.getD undef, ⟨cur, hh, g3, fun t ht => by simp only [Array.getElem?_eq_getElem (show t < cur.size by omega), Option.getD_some]⟩, fun t ht => ?_, fun t _ ht => hF t ht⟩, Turn.refl _ _⟩
      rw [hO, ← hF t (by omega)]
      have : opnVals l = opnVals (l.take i0) ++ opnVals (l.drop i0) := by
        simp only [opnVals]; rw [← List.flatMap_append, List.take_append_drop]
      rw [this, List.getElem?_append_left (by rw [opnVals_len, List.length_take]; omega)])
    have G2 := hid g2
    have HN1 := hid hn1
    have hk2 : k ≤ 2 ^ 63 - 1 := by unfold maxLen at g2; exact g2
    clear hfound hbefore hn1 hF hI hO hh g2 g3 g4
    have hm1 : ((i0 : Int) == -1) = false := by simp
    go_wp2
    clear hm1
    go_loopw [5, 6, 7] (fun i j _ wr => ∃ jn n : Nat, jn ≤ l.length ∧ j = .int .i64 jn ∧ i = .int .i64 n ∧ Hid (DelO w1 wr g (k * 3) l P jn n)) (fun _ j _ _ => l.length - (intOf j).toNat)
    case atStart => exact ⟨i0 + 1, i0, by omega, by go_num, rfl, S1⟩
    case round =>
      clear S1
      obtain ⟨j, n, hj, rfl, rfl, hL⟩ := hrel
      have hij := hL.out.lt
      obtain ⟨F, hr, _, hhi⟩ := hL.out.lies
      have hglr : g < wr.heap.size := hr.lt
      by_cases hlt : j < l.length
      · obtain ⟨x0, x1, x2⟩ := opnVals_at l j hlt
        have d0 := hr.cell (j * 3) (by omega)
        have d1 := hr.cell (j * 3 + 1) (by omega)
        have d2 := hr.cell (j * 3 + 2) (by omega)
        rw [hhi (j * 3) (by omega) (by omega)] at x0
        rw [hhi (j * 3 + 1) (by omega) (by omega)] at x1
        rw [hhi (j * 3 + 2) (by omega) (by omega)] at x2
        injection x0 with x0
        injection x1 with x1
        injection x2 with x2
        rw [x0] at d0
        rw [x1] at d1
        rw [x2] at d2
        have hi0' := hr.cell (n * 3) (by omega)
        have hi1' := hr.cell (n * 3 + 1) (by omega)
        have hi2' := hr.cell (n * 3 + 2) (by omega)
        have zi0 := hr.frozen (n * 3)
        have zi1 := hr.frozen (n * 3 + 1)
        have zi2 := hr.frozen (n * 3 + 2)
        clear x0 x1 x2 hr hhi
        obtain ⟨B, hB⟩ : ∃ B, P l[j] = B := ⟨_, rfl⟩
        have HFX := hid (HF.out l[j])
        rw [hB] at HFX
        cases B
        · have HNX := hid (fun (w2 : World) (hn : New wr w2) => (hL.out.new hn).keep hlt hB)
          clear hB hL
          generalize hx : l[j] = x at *
          clear hx
          go_wp2_with fail
          refine (HFX.out _).mono ?_
          rintro e w2 ⟨rfl, hn2⟩
          have ml := hn2.made.1
          have hn3 := ((New.refl wr).alloc #[Value.int .i64 x.unit, .int .i64 x.next, .string x.ready] 47).trans hn2
          rw [← hn3.cell _ _ hglr] at hi0' hi1' hi2'
          rw [← (bcell hn3).2 _ _ hglr] at zi0 zi1 zi2
          have hgl3 : g < w2.heap.size := Nat.lt_of_lt_of_le hglr hn3.size
          have HN3 := hid hn3
          clear hn2 hn3
          go_wp2
          go_roundw
          case rel => exact ⟨j + 1, n + 1, by omega, by go_num, by go_num, hid (HNX.out w2 HN3.out)⟩
          case measure => simp [intOf]; omega
        · have HNX := hid (hL.out.skip hlt hB)
          clear hB hL
          generalize hx : l[j] = x at *
          clear hx
          go_wp2_with fail
          refine (HFX.out _).mono ?_
          rintro e w2 ⟨rfl, hn2⟩
          have HN2 := hid (((New.refl wr).alloc _ _).trans hn2)
          clear hn2
          go_wp2
          go_roundw
          case rel => exact ⟨j + 1, n, by omega, by go_num, rfl, hid (HNX.out.new HN2.out)⟩
          case measure => simp [intOf]; omega
      · obtain rfl : j = l.length := by omega
        obtain ⟨w5, F5, hcl, hr5, hF5, ht5⟩ := run_clearO (n := l.length - n) (c := k - n) hr (o := n * 3) (by omega) (by omega)
        have hlen := hL.out.len
        rw [List.take_length] at hlen
        obtain ⟨F6, hr6, hlo6, _⟩ := hL.out.lies
        rw [List.take_length] at hlo6
        have hFF : ∀ t, t < n * 3 → F t = F6 t := fun t ht => by
          have a := hr.cell t (by omega)
          have b := hr6.cell t (by omega)
          rw [a] at b
          injection b
        have HROW : Hid (w5.ownsRow 0 47 3 (.slice (some ⟨g, 0, none⟩) (keepO P l).length k) (keepO P l).length (opnVals (keepO P l))) := hid (by
          rw [← hlen]
          exact hr5.rowO rfl (by omega) G2.out (by rw [opnVals_len, ← hlen]) (fun t ht => by rw [hF5 t ht, hFF t ht]; exact hlo6 t ht))
        have HTT : Hid (Turn (fun k' => (Value.slice (some ⟨g, 0, none⟩) l.length k).ownBlock = some k') w w5) := hid ((Turn.of_new HN1.out).trans ((hL.out.turn.trans ht5).mono fun k' _ h => by rw [h]; rfl))
        have HLO : Hid (n = (keepO P l).length) := hid hlen
        clear hr hhi hr6 hlo6 hFF hr5 hF5 ht5 hlen hL
        go_wp2
        go_ret
        exact ⟨some ⟨g, 0, none⟩, k, by rw [← HLO.out]; rfl, HROW.out, rfl, HTT.out⟩
set_option maxRecDepth 100000 in
set_option maxHeartbeats 2000000 in
theorem idx_opn37 (P : Opn → Bool) (hf : Looks 37 P) (v : Value) (l : List Opn) (w : World) (h : w.ownsRow 0 47 3 v l.length (opnVals l)) (hl : l.length ≤ 1000000) :
    Calls Try.prog 63 #[v, .func (.func 37) #[] #[]] w fun e w' => New w w' ∧ ((e = .returned (.int .i64 (-1)) ∧ ∀ o ∈ l, P o = false) ∨ ∃ i : Nat, ∃ hi : i < l.length, e = .returned (.int .i64 i) ∧ P l[i] = true ∧ ∀ k, (hk : k < i) → P l[k] = false) := by
  have HO := hid h
  have HF := hid hf
  obtain ⟨q, k, rfl⟩ := own_len h
  clear h hf
  go_enter Try.func63, Try.ntmps63
  go_wp2
  go_loopw [5, 8] (fun _ i wr => ∃ j : Nat, j ≤ l.length ∧ i = .int .i64 j ∧ New w wr ∧ Hid (∀ k, (hk : k < l.length) → k < j → P l[k] = false)) (fun _ i _ => l.length - (intOf i).toNat)
  case atStart => exact ⟨0, Nat.zero_le _, rfl, New.refl _, hid fun k hk h => absurd h (Nat.not_lt_zero _)⟩
  case round =>
    obtain ⟨j, hj, rfl, hn, hall⟩ := hrel
    by_cases hlt : j < l.length
    · have ho := own_old HO.out hn
      obtain ⟨g, cap, cur, e, -⟩ := own_form ho (by omega)
      injection e with e1 e8 e9
      subst e1 e9
      clear e8
      obtain ⟨x0, x1, x2⟩ := opnVals_at l j hlt
      have hlen := opnVals_len l
      have d0 := (own_cell ho (j * 3) (by omega)).trans x0
      have d1 := (own_cell ho (j * 3 + 1) (by omega)).trans x1
      have d2 := (own_cell ho (j * 3 + 2) (by omega)).trans x2
      have HALL : Hid (P l[j] = false → ∀ k, (hk : k < l.length) → k < j + 1 → P l[k] = false) := hid fun h k hk hk2 => by
        rcases Nat.lt_or_ge k j with h' | h'
        · exact hall.out k hk h'
        · obtain rfl : k = j := by omega
          exact h
      have HFOUND : Hid (∀ k, (hk : k < j) → P l[k] = false) := hid fun k hk => hall.out k (by omega) hk
      have HLT := hid hlt
      clear ho x0 x1 x2 hlen hall
      obtain ⟨B, hB⟩ : ∃ B, P l[j] = B := ⟨_, rfl⟩
      have HB := hid hB
      have HFX := hid (HF.out l[j])
      rw [hB] at HFX
      clear hB
      generalize hx : l[j] = x at *
      have HX := hid hx
      clear hx
      go_wp2_with fail
      refine (HFX.out _).mono ?_
      rintro e w2 ⟨rfl, hn2⟩
      have HN2 := hid (hn.trans hn2)
      clear hn hn2
      cases B
      · go_wp2
        go_roundw
        case rel => exact ⟨j + 1, by omega, by go_num, HN2.out, hid (HALL.out HB.out)⟩
        case measure => simp [intOf]; omega
      · go_wp2
        go_ret
        exact ⟨HN2.out, .inr ⟨j, HLT.out, rfl, (congrArg P HX.out).trans HB.out, HFOUND.out⟩⟩
    · obtain rfl : j = l.length := by omega
      go_wp2
      go_ret
      exact ⟨hn, .inl ⟨rfl, fun z hz => by
        obtain ⟨i, hi, rfl⟩ := List.mem_iff_getElem.1 hz
        exact hall.out i hi hi⟩⟩
set_option maxHeartbeats 4000000 in
set_option maxRecDepth 100000 in
theorem del_opn37 (P : Opn → Bool) (hf : Looks 37 P) (v : Value) (l : List Opn) (w : World) (h : w.ownsRow 0 47 3 v l.length (opnVals l)) (hl : l.length ≤ 100000) :
    Calls Try.prog 33 #[v, .func (.func 37) #[] #[]] w (DelBack P v l w) := by
  have HX := hid h
  have HF := hid hf
  obtain ⟨q, k, rfl⟩ := own_len h
  clear h hf
  go_enter Try.func33, Try.ntmps33
  go_wp2_with fail
  refine (idx_opn37 P HF.out _ l w HX.out (by omega)).mono ?_
  rintro e w1 ⟨hn1, ⟨rfl, hno⟩ | ⟨i0, hi0, rfl, hfound, hbefore⟩⟩
  · have HFIN : Hid (keepO P l = l) := hid (keepO_all hno)
    have HN1 := hid hn1
    clear hn1 hno
    go_wp2
    go_ret
    refine ⟨q, k, by rw [HFIN.out]; rfl, ?_, by rw [HFIN.out], Turn.of_new HN1.out⟩
    rw [HFIN.out]
    exact own_old HX.out HN1.out
  · obtain ⟨g, cap, cur, e, hh, g1, g2, g3, g4⟩ := own_form (own_old HX.out hn1) (by omega)
    injection e with e1 _ e3
    subst e1 e3
    have hgl : g < w1.heap.size := (Array.getElem?_eq_some_iff.1 hh).1
    have hF : ∀ t, t < l.length * 3 → (opnVals l)[t]? = some (cur[t]?.getD undef) := fun t ht => by
      rw [← g4, List.getElem?_take, if_pos ht, Array.getElem?_toList, Array.getElem?_eq_getElem (by omega)]
      rfl
    have hI : l.take (i0 + 1) = l.take i0 ++ [l[i0]] := take_snocO hi0
    have hO : keepO P (l.take (i0 + 1)) = l.take i0 := by
      rw [hI, keepO_no hfound, keepO_all]
      intro z hz
      obtain ⟨t, ht, rfl⟩ := List.mem_iff_getElem.1 hz
      rw [List.length_take] at ht
      rw [List.getElem_take]
      exact hbefore t (by omega)
    have S1 : Hid (DelO w1 w1 g (k * 3) l P (i0 + 1) i0) := hid (by
      refine ⟨by rw [hO, List.length_take]; omega, by omega, ⟨fun t => cur[t]?.getD undef, ⟨cur, hh, g3, fun t ht => by simp only [Array.getElem?_eq_getElem (show t < cur.size by omega), Option.getD_some]⟩, fun t ht => ?_, fun t _ ht => hF t ht⟩, Turn.refl _ _⟩
      rw [hO, ← hF t (by omega)]
      have : opnVals l = opnVals (l.take i0) ++ opnVals (l.drop i0) := by
        simp only [opnVals]; rw [← List.flatMap_append, List.take_append_drop]
      rw [this, List.getElem?_append_left (by rw [opnVals_len, List.length_take]; omega)])
    have G2 := hid g2
    have HN1 := hid hn1
    have hk2 : k ≤ 2 ^ 63 - 1 := by unfold maxLen at g2; exact g2
    clear hfound hbefore hn1 hF hI hO hh g2 g3 g4
    have hm1 : ((i0 : Int) == -1) = false := by simp
    go_wp2
    clear hm1
    go_loopw [5, 6, 7] (fun i j _ wr => ∃ jn n : Nat, jn ≤ l.length ∧ j = .int .i64 jn ∧ i = .int .i64 n ∧ Hid (DelO w1 wr g (k * 3) l P jn n)) (fun _ j _ _ => l.length - (intOf j).toNat)
    case atStart => exact ⟨i0 + 1, i0, by omega, by go_num, rfl, S1⟩
    case round =>
      clear S1
      obtain ⟨j, n, hj, rfl, rfl, hL⟩ := hrel
      have hij := hL.out.lt
      obtain ⟨F, hr, _, hhi⟩ := hL.out.lies
      have hglr : g < wr.heap.size := hr.lt
      by_cases hlt : j < l.length
      · obtain ⟨x0, x1, x2⟩ := opnVals_at l j hlt
        have d0 := hr.cell (j * 3) (by omega)
        have d1 := hr.cell (j * 3 + 1) (by omega)
        have d2 := hr.cell (j * 3 + 2) (by omega)
        rw [hhi (j * 3) (by omega) (by omega)] at x0
        rw [hhi (j * 3 + 1) (by omega) (by omega)] at x1
        rw [hhi (j * 3 + 2) (by omega) (by omega)] at x2
        injection x0 with x0
        injection x1 with x1
        injection x2 with x2
        rw [x0] at d0
        rw [x1] at d1
        rw [x2] at d2
        have hi0' := hr.cell (n * 3) (by omega)
        have hi1' := hr.cell (n * 3 + 1) (by omega)
        have hi2' := hr.cell (n * 3 + 2) (by omega)
        have zi0 := hr.frozen (n * 3)
        have zi1 := hr.frozen (n * 3 + 1)
        have zi2 := hr.frozen (n * 3 + 2)
        clear x0 x1 x2 hr hhi
        obtain ⟨B, hB⟩ : ∃ B, P l[j] = B := ⟨_, rfl⟩
        have HFX := hid (HF.out l[j])
        rw [hB] at HFX
        cases B
        · have HNX := hid (fun (w2 : World) (hn : New wr w2) => (hL.out.new hn).keep hlt hB)
          clear hB hL
          generalize hx : l[j] = x at *
          clear hx
          go_wp2_with fail
          refine (HFX.out _).mono ?_
          rintro e w2 ⟨rfl, hn2⟩
          have ml := hn2.made.1
          have hn3 := ((New.refl wr).alloc #[Value.int .i64 x.unit, .int .i64 x.next, .string x.ready] 47).trans hn2
          rw [← hn3.cell _ _ hglr] at hi0' hi1' hi2'
          rw [← (bcell hn3).2 _ _ hglr] at zi0 zi1 zi2
          have hgl3 : g < w2.heap.size := Nat.lt_of_lt_of_le hglr hn3.size
          have HN3 := hid hn3
          clear hn2 hn3
          go_wp2
          go_roundw
          case rel => exact ⟨j + 1, n + 1, by omega, by go_num, by go_num, hid (HNX.out w2 HN3.out)⟩
          case measure => simp [intOf]; omega
        · have HNX := hid (hL.out.skip hlt hB)
          clear hB hL
          generalize hx : l[j] = x at *
          clear hx
          go_wp2_with fail
          refine (HFX.out _).mono ?_
          rintro e w2 ⟨rfl, hn2⟩
          have HN2 := hid (((New.refl wr).alloc _ _).trans hn2)
          clear hn2
          go_wp2
          go_roundw
          case rel => exact ⟨j + 1, n, by omega, by go_num, rfl, hid (HNX.out.new HN2.out)⟩
          case measure => simp [intOf]; omega
      · obtain rfl : j = l.length := by omega
        obtain ⟨w5, F5, hcl, hr5, hF5, ht5⟩ := run_clearO (n := l.length - n) (c := k - n) hr (o := n * 3) (by omega) (by omega)
        have hlen := hL.out.len
        rw [List.take_length] at hlen
        obtain ⟨F6, hr6, hlo6, _⟩ := hL.out.lies
        rw [List.take_length] at hlo6
        have hFF : ∀ t, t < n * 3 → F t = F6 t := fun t ht => by
          have a := hr.cell t (by omega)
          have b := hr6.cell t (by omega)
          rw [a] at b
          injection b
        have HROW : Hid (w5.ownsRow 0 47 3 (.slice (some ⟨g, 0, none⟩) (keepO P l).length k) (keepO P l).length (opnVals (keepO P l))) := hid (by
          rw [← hlen]
          exact hr5.rowO rfl (by omega) G2.out (by rw [opnVals_len, ← hlen]) (fun t ht => by rw [hF5 t ht, hFF t ht]; exact hlo6 t ht))
        have HTT : Hid (Turn (fun k' => (Value.slice (some ⟨g, 0, none⟩) l.length k).ownBlock = some k') w w5) := hid ((Turn.of_new HN1.out).trans ((hL.out.turn.trans ht5).mono fun k' _ h => by rw [h]; rfl))
        have HLO : Hid (n = (keepO P l).length) := hid hlen
        clear hr hhi hr6 hlo6 hFF hr5 hF5 ht5 hlen hL
        go_wp2
        go_ret
        exact ⟨some ⟨g, 0, none⟩, k, by rw [← HLO.out]; rfl, HROW.out, rfl, HTT.out⟩
end Go.Proofs.Ytmchbciofdokfaa
