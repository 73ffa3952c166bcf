/- The specification's disk in memory: words, and its small functions (IsBlock, act, Arm, Start, Down, Waiting, Acts, Falls). -/
import Derived.Test.YtbclgklpcbajfaaD20
namespace Go.Proofs.Ytbclgklpcbajfaa
open Go.RowKit
set_option linter.unusedSimpArgs false
set_option linter.unusedVariables false

/-- The cells of waiting writes whose bytes are texts. -/
def waitVals (l : List (Nat × ByteArray)) : List Value := l.flatMap fun p => [.int .i64 (p.1 : Int), .string p.2]
theorem waitVals_length (l : List (Nat × ByteArray)) : (waitVals l).length = l.length * 2 := by
  induction l with
  | nil => rfl
  | cons a l ih => simp only [waitVals, List.flatMap_cons, List.length_append, List.length_cons, List.length_nil] at *; omega
theorem waitVals_get (l : List (Nat × ByteArray)) (i : Nat) (h : i < l.length) : (waitVals l)[i * 2]? = some (.int .i64 (l[i].1 : Int)) ∧ (waitVals l)[i * 2 + 1]? = some (.string l[i].2) := by
  induction l generalizing i with
  | nil => simp at h
  | cons a l ih =>
    cases i with
    | zero => simp [waitVals]
    | succ i =>
      have := ih i (by simpa using h)
      have e : (i + 1) * 2 = i * 2 + 2 := by omega
      simp only [waitVals, List.flatMap_cons, List.getElem_cons_succ] at *
      rw [e, show i * 2 + 2 + 1 = i * 2 + 1 + 2 by omega]
      simpa using this
theorem waitVals_snoc (l : List (Nat × ByteArray)) (p : Nat × ByteArray) : waitVals (l ++ [p]) = waitVals l ++ [.int .i64 (p.1 : Int), .string p.2] := by simp [waitVals]

/-- What the cells of the specification's disk say. -/
structure RefIs (w : World) (f : Nat → Value) (ow : Option Nat) (A : ADisk) : Prop where
  safe : ∀ i, i < 3120 → f i = .string (A.safe i)
  own : w.ownsRow 0 143 2 (f 3120) A.waits.length (waitVals A.waits)
  blk : (f 3120).ownBlock = ow
  armed : f 3121 = .int .i64 A.armed
  down : f 3122 = .bool A.down
  acts : f 3123 = .int .i64 A.acts
  falls : f 3124 = .int .i64 A.falls
  inside : ∀ p ∈ A.waits, p.1 < 3120
  armed0 : 0 ≤ A.armed ∧ A.armed ≤ 2 ^ 63 - 1
  acts0 : 0 ≤ A.acts
  falls0 : 0 ≤ A.falls
def RefAt (w : World) (b : Nat) (ow : Option Nat) (A : ADisk) : Prop := ∃ f, Raw w b 56 3125 f ∧ RefIs w f ow A
theorem RefIs.turn {S : Nat → Prop} {w w' : World} {f : Nat → Value} {ow : Option Nat} {A : ADisk} (h : RefIs w f ow A) (ht : Turn S w w') (how : ∀ k, ow = some k → ¬ S k) : RefIs w' f ow A :=
  { h with own := own_turn h.own ht (fun k hk => how k (by rw [← h.blk]; exact hk)) }
theorem RefAt.turn {S : Nat → Prop} {w w' : World} {b : Nat} {ow : Option Nat} {A : ADisk} (h : RefAt w b ow A) (ht : Turn S w w') (hb : ¬ S b) (how : ∀ k, ow = some k → ¬ S k) : RefAt w' b ow A := by
  obtain ⟨f, h1, h2⟩ := h
  exact ⟨f, h1.turn ht hb, h2.turn ht how⟩
theorem RefAt.new {w w' : World} {b : Nat} {ow : Option Nat} {A : ADisk} (h : RefAt w b ow A) (hn : New w w') : RefAt w' b ow A :=
  h.turn (S := fun _ => False) (Turn.of_new hn) (fun h => h) (fun _ _ h => h)
theorem RefAt.base {w : World} {b : Nat} {ow : Option Nat} {A : ADisk} (h : RefAt w b ow A) : ∃ c, w.heap[b]? = some (.cells c 56 (0, 0)) := by
  obtain ⟨f, ⟨cs, h1, _⟩, _⟩ := h
  exact ⟨cs, h1⟩
theorem own_base {w : World} {base : Nat} {e : TypeId} {size : Nat} {v : Value} {n : Nat} {xs : List Value} (h : w.ownsRow base e size v n xs) {k : Nat} (hk : v.ownBlock = some k) : ∃ c, w.heap[k]? = some (.cells c e (0, 0)) := by
  rcases h.2 with ⟨e, _⟩ | ⟨g, cap, cur, e, hg, hh, r⟩
  · rw [e] at hk; simp [Value.ownBlock] at hk
  · rw [e] at hk
    simp only [Value.ownBlock, Option.some.injEq] at hk
    subst hk
    exact ⟨_, hh⟩
theorem RefAt.row {w : World} {b : Nat} {ow : Option Nat} {A : ADisk} (h : RefAt w b ow A) {k : Nat} (hk : ow = some k) : ∃ c, w.heap[k]? = some (.cells c 143 (0, 0)) := by
  obtain ⟨f, _, hd⟩ := h
  exact own_base hd.own (hd.blk.trans hk)
theorem RefAt.typed {w : World} {b : Nat} {ow : Option Nat} {A : ADisk} (h : RefAt w b ow A) {k : Nat} (hk : its b ow k) : ∃ c t, w.heap[k]? = some (.cells c t (0, 0)) ∧ (t = 56 ∨ t = 143) := by
  rcases hk with rfl | hk
  · obtain ⟨c, e⟩ := h.base; exact ⟨c, 56, e, .inl rfl⟩
  · obtain ⟨c, e⟩ := h.row hk; exact ⟨c, 143, e, .inr rfl⟩
theorem RefAt.its_lt {w : World} {b : Nat} {ow : Option Nat} {A : ADisk} (h : RefAt w b ow A) {k : Nat} (hk : its b ow k) : k < w.heap.size := by
  obtain ⟨c, t, e, _⟩ := h.typed hk
  exact (Array.getElem?_eq_some_iff.1 e).1

def RefBack (b : Nat) (ow : Option Nat) (v : Value) (A : ADisk) (w : World) (e : Ending) (w' : World) : Prop := e = .returned v ∧ RefAt w' b ow A ∧ Turn (· = b) w w'
def RefMoved (b : Nat) (ow : Option Nat) (v : Value) (A : ADisk) (w : World) (e : Ending) (w' : World) : Prop :=
  e = .returned v ∧ ∃ ow', RefAt w' b ow' A ∧ (∀ k, ow' = some k → ow = some k ∨ w.heap.size ≤ k) ∧ Turn (its b ow) w w'
theorem RefBack.moved {b : Nat} {ow : Option Nat} {v : Value} {A : ADisk} {w w' : World} {e : Ending} (h : RefBack b ow v A w e w') : RefMoved b ow v A w e w' :=
  ⟨h.1, ow, h.2.1, fun k hk => .inl hk, h.2.2.mono fun k _ h => .inl h⟩

theorem ref_ne {w : World} {b n : Nat} {f : Nat → Value} (h : Raw w b 56 n f) {ow : Option Nat} {A : ADisk} (hd : RefIs w f ow A) : ∀ k, ow = some k → ¬ (k = b) := by
  intro k hk e
  subst e
  obtain ⟨c, hc⟩ := own_base hd.own (hd.blk.trans hk)
  exact h.typed (by decide) c (0, 0) hc
/-- Some of the cells 3121 to 3124 are laid anew. -/
theorem RefAt.laid {w w' : World} {b : Nat} {f f' : Nat → Value} {ow : Option Nat} {A A' : ADisk} (hr : Raw w b 56 3125 f) (hd : RefIs w f ow A) (hr' : Raw w' b 56 3125 f') (ht : Turn (· = b) w w')
    (h0 : ∀ i, i < 3121 → f' i = f i) (hs : A'.safe = A.safe) (hw : A'.waits = A.waits) (ha : f' 3121 = .int .i64 A'.armed) (h2 : f' 3122 = .bool A'.down) (hc : f' 3123 = .int .i64 A'.acts) (hf : f' 3124 = .int .i64 A'.falls)
    (a0 : 0 ≤ A'.armed ∧ A'.armed ≤ 2 ^ 63 - 1) (c0 : 0 ≤ A'.acts) (f0 : 0 ≤ A'.falls) : RefAt w' b ow A' := by
  have d := hd.turn ht (ref_ne hr hd)
  exact ⟨f', hr', fun i hi => by rw [h0 i (by omega), hs]; exact d.safe i hi, by rw [h0 3120 (by omega), hw]; exact d.own, by rw [h0 3120 (by omega)]; exact d.blk, ha, h2, hc, hf, by rw [hw]; exact d.inside, a0, c0, f0⟩

theorem refIsBlock_any (n : Int) (w : World) : Calls Try.prog 118 #[.int .i64 n] w fun e w' => e = .returned (.bool (isB n)) ∧ w = w' := by
  by_cases h : 0 ≤ n
  · go_enter Try.func118, Try.ntmps118
    go_wp2
    go_ret
    exact ⟨ret_bool (by simp [isB]; omega), rfl⟩
  · go_enter Try.func118, Try.ntmps118
    go_wp2
    go_ret
    exact ⟨ret_bool (by simp [isB]; omega), rfl⟩

set_option maxHeartbeats 800000 in
theorem refAct_any (b : Nat) (ow : Option Nat) (A : ADisk) (w : World) (h : RefAt w b ow A) (hdn : A.down = false) (hb : A.falls ≤ 1000000000) (hb2 : A.acts ≤ 1000000000) :
    Calls Try.prog 119 #[.pointer (some ⟨b, 0, none⟩)] w (RefBack b ow (.bool (decide (actE A = 0))) (actA A) w) := by
  obtain ⟨f, hr, hd⟩ := h
  have c1 := hr.cell 3121 (by omega)
  have c2 := hr.cell 3122 (by omega)
  have c3 := hr.cell 3123 (by omega)
  have c4 := hr.cell 3124 (by omega)
  have z1 := hr.frozen 3121
  have z2 := hr.frozen 3122
  have z3 := hr.frozen 3123
  have z4 := hr.frozen 3124
  rw [hd.armed] at c1
  rw [hd.down] at c2
  rw [hd.acts] at c3
  rw [hd.falls] at c4
  obtain ⟨a0, a1⟩ := hd.armed0
  have c0 := hd.acts0
  have f0 := hd.falls0
  have HD := hid hd
  have HR := hid hr
  have HN := hid hdn
  clear hd hr hdn
  by_cases e : A.armed = 1
  · have t : (A.armed == 1) = true := by simpa using e
    have E := hid e
    clear e
    have ht := (((Turn.refl (· = b) w).setCell (p := ⟨b, 3121, none⟩) rfl (.int .i64 0)).setCell (p := ⟨b, 3122, none⟩) rfl (.bool true)).setCell (p := ⟨b, 3124, none⟩) rfl (.int .i64 (A.falls + 1))
    have HF : Hid (RefBack b ow (.bool (decide (actE A = 0))) (actA A) w (.returned (.bool false)) (((w.setCell ⟨b, 3121, none⟩ (.int .i64 0)).setCell ⟨b, 3122, none⟩ (.bool true)).setCell ⟨b, 3124, none⟩ (.int .i64 (A.falls + 1)))) := hid (by
      have hA : actA A = { A with armed := 0, down := true, falls := A.falls + 1 } := by simp [actA, HN.out, E.out]
      refine ⟨by simp [actE, HN.out, E.out], ?_, ht⟩
      rw [hA]
      exact RefAt.laid HR.out HD.out (((HR.out.set 3121 _).set 3122 _).set 3124 _) ht (fun i hi => by rw [upd_other _ _ (by omega), upd_other _ _ (by omega), upd_other _ _ (by omega)]) rfl rfl (by simp [upd]) (by simp [upd]) (by simp [upd, HD.out.acts]) (by simp [upd]) zero_armed HD.out.acts0 (by show 0 ≤ A.falls + 1; omega))
    clear ht
    go_enter Try.func119, Try.ntmps119
    go_wp2
    go_ret
    exact HF.out
  · have t : (A.armed == 1) = false := by simpa using e
    have E := hid e
    clear e
    have HF : Hid (∀ m : Int, m = max (A.armed - 1) 0 → RefBack b ow (.bool (decide (actE A = 0))) (actA A) w (.returned (.bool true)) ((w.setCell ⟨b, 3121, none⟩ (.int .i64 m)).setCell ⟨b, 3123, none⟩ (.int .i64 (A.acts + 1)))) := fun m hm => by
      have ht := ((Turn.refl (· = b) w).setCell (p := ⟨b, 3121, none⟩) rfl (.int .i64 m)).setCell (p := ⟨b, 3123, none⟩) rfl (.int .i64 (A.acts + 1))
      have hA : actA A = { A with armed := m, acts := A.acts + 1 } := by simp [actA, HN.out, E.out, hm]
      refine ⟨by simp [actE, HN.out, E.out], ?_, ht⟩
      rw [hA]
      exact RefAt.laid HR.out HD.out ((HR.out.set 3121 _).set 3123 _) ht (fun i hi => by rw [upd_other _ _ (by omega), upd_other _ _ (by omega)]) rfl rfl (by simp [upd]) (by simp [upd, HD.out.down]) (by simp [upd]) (by simp [upd, HD.out.falls]) ⟨by show 0 ≤ m; omega, by show m ≤ 2 ^ 63 - 1; omega⟩ (by show 0 ≤ A.acts + 1; omega) HD.out.falls0
    go_enter Try.func119, Try.ntmps119
    go_wp2
    all_goals go_ret
    all_goals exact HF.out _ (by omega)

set_option maxHeartbeats 800000 in
theorem refArm_any (b : Nat) (ow : Option Nat) (A : ADisk) (n : Int) (w : World) (h : RefAt w b ow A) (hn : n ≤ 2 ^ 63 - 1) :
    Calls Try.prog 72 #[.pointer (some ⟨b, 0, none⟩), .int .i64 n] w (RefBack b ow (.tuple #[]) { A with armed := max n 0 } w) := by
  obtain ⟨f, hr, hd⟩ := h
  have c2 := hr.cell 3121 (by omega)
  have z2 := hr.frozen 3121
  rw [hd.armed] at c2
  have HD := hid hd
  have HR := hid hr
  clear hd hr
  have HF : Hid (∀ m : Int, m = max n 0 → RefBack b ow (.tuple #[]) { A with armed := max n 0 } w (.returned (.tuple #[])) (w.setCell ⟨b, 3121, none⟩ (.int .i64 m))) := fun m hm => by
    have ht := (Turn.refl (· = b) w).setCell (p := ⟨b, 3121, none⟩) rfl (.int .i64 m)
    refine ⟨rfl, ?_, ht⟩
    rw [← hm]
    exact RefAt.laid HR.out HD.out (HR.out.set 3121 _) ht (fun i hi => by rw [upd_other _ _ (by omega)]) rfl rfl (by simp [upd]) (by simp [upd, HD.out.down]) (by simp [upd, HD.out.acts]) (by simp [upd, HD.out.falls]) ⟨by show 0 ≤ m; omega, by show m ≤ 2 ^ 63 - 1; omega⟩ HD.out.acts0 HD.out.falls0
  go_enter Try.func72, Try.ntmps72
  go_wp2
  all_goals go_end0
  all_goals exact HF.out _ (by omega)

set_option maxHeartbeats 800000 in
theorem refStart_any (b : Nat) (ow : Option Nat) (A : ADisk) (w : World) (h : RefAt w b ow A) :
    Calls Try.prog 74 #[.pointer (some ⟨b, 0, none⟩)] w (RefBack b ow (.tuple #[]) { A with down := false, armed := 0 } w) := by
  obtain ⟨f, hr, hd⟩ := h
  have c1 := hr.cell 3121 (by omega)
  have c2 := hr.cell 3122 (by omega)
  have z1 := hr.frozen 3121
  have z2 := hr.frozen 3122
  rw [hd.armed] at c1
  rw [hd.down] at c2
  have HD := hid hd
  have HR := hid hr
  clear hd hr
  go_enter Try.func74, Try.ntmps74
  go_wp2
  go_end0
  have ht := ((Turn.refl (· = b) w).setCell (p := ⟨b, 3122, none⟩) rfl (.bool false)).setCell (p := ⟨b, 3121, none⟩) rfl (.int .i64 0)
  exact ⟨rfl, RefAt.laid HR.out HD.out ((HR.out.set 3122 _).set 3121 _) ht (fun i hi => by rw [upd_other _ _ (by omega), upd_other _ _ (by omega)]) rfl rfl (by simp [upd]) (by simp [upd]) (by simp [upd, HD.out.acts]) (by simp [upd, HD.out.falls]) zero_armed HD.out.acts0 HD.out.falls0, ht⟩

theorem ref_slice {w : World} {f : Nat → Value} {ow : Option Nat} {A : ADisk} (h : RefIs w f ow A) : ∃ p c, f 3120 = .slice p A.waits.length c ∧ (0 < A.waits.length → ∃ g, p = some ⟨g, 0, none⟩) := by
  rcases h.own.2 with ⟨e, h0⟩ | ⟨g, cap, cur, e, _⟩
  · exact ⟨_, _, by rw [e, h0], fun h => by omega⟩
  · exact ⟨_, _, e, fun _ => ⟨g, rfl⟩⟩

theorem refDown_any (b : Nat) (ow : Option Nat) (A : ADisk) (w : World) (h : RefAt w b ow A) :
    Calls Try.prog 79 #[.pointer (some ⟨b, 0, none⟩)] w fun e w' => e = .returned (.bool A.down) ∧ w = w' := by
  obtain ⟨f, hr, hd⟩ := h
  have c1 := hr.cell 3122 (by omega)
  rw [hd.down] at c1
  clear hr hd
  go_enter Try.func79, Try.ntmps79
  go_wp2
  go_ret
  exact ⟨rfl, rfl⟩
theorem refWaiting_any (b : Nat) (ow : Option Nat) (A : ADisk) (w : World) (h : RefAt w b ow A) :
    Calls Try.prog 80 #[.pointer (some ⟨b, 0, none⟩)] w fun e w' => e = .returned (.int .i64 A.waits.length) ∧ w = w' := by
  obtain ⟨f, hr, hd⟩ := h
  have c1 := hr.cell 3120 (by omega)
  obtain ⟨p, c, e, _⟩ := ref_slice hd
  rw [e] at c1
  clear hr hd e
  go_enter Try.func80, Try.ntmps80
  go_wp2
  go_ret
  exact ⟨rfl, rfl⟩
theorem refActs_any (b : Nat) (ow : Option Nat) (A : ADisk) (w : World) (h : RefAt w b ow A) :
    Calls Try.prog 81 #[.pointer (some ⟨b, 0, none⟩)] w fun e w' => e = .returned (.int .i64 A.acts) ∧ w = w' := by
  obtain ⟨f, hr, hd⟩ := h
  have c1 := hr.cell 3123 (by omega)
  rw [hd.acts] at c1
  clear hr hd
  go_enter Try.func81, Try.ntmps81
  go_wp2
  go_ret
  exact ⟨rfl, rfl⟩
theorem refFalls_any (b : Nat) (ow : Option Nat) (A : ADisk) (w : World) (h : RefAt w b ow A) :
    Calls Try.prog 82 #[.pointer (some ⟨b, 0, none⟩)] w fun e w' => e = .returned (.int .i64 A.falls) ∧ w = w' := by
  obtain ⟨f, hr, hd⟩ := h
  have c1 := hr.cell 3124 (by omega)
  rw [hd.falls] at c1
  clear hr hd
  go_enter Try.func82, Try.ntmps82
  go_wp2
  go_ret
  exact ⟨rfl, rfl⟩

end Go.Proofs.Ytbclgklpcbajfaa
