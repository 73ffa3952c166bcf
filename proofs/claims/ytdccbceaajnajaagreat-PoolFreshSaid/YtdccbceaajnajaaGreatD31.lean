/- The specification's disk in memory: words, and its small functions (IsBlock, act, Arm, Start, Down, Waiting, Acts, Falls). The specification's disk: there, Read, Same. -/
import Derived.Test.YtdccbceaajnajaaGreatD45
import Derived.Lib.ConvBytes
namespace Go.Proofs.YtdccbceaajnajaaGreat
open Go.RowKit
set_option linter.unusedSimpArgs false
set_option linter.unusedVariables false

/-- The cells of waiting writes whose bytes are texts. -/
def waitVals (l : List (Nat × ByteArray)) : List Value := l.flatMap fun p => [.int .i64 (p.1 : Int), .string p.2]
theorem waitVals_length (l : List (Nat × ByteArray)) : (waitVals l).length = l.length * 2 := by
  induction l with
  | nil => rfl
  | cons a l ih => simp only [waitVals, List.flatMap_cons, List.length_append, List.length_cons, List.length_nil] at *; omega
theorem waitVals_get (l : List (Nat × ByteArray)) (i : Nat) (h : i < l.length) : (waitVals l)[i * 2]? = some (.int .i64 (l[i].1 : Int)) ∧ (waitVals l)[i * 2 + 1]? = some (.string l[i].2) := by
  induction l generalizing i with
  | nil => simp at h
  | cons a l ih =>
    cases i with
    | zero => simp [waitVals]
    | succ i =>
      have := ih i (by simpa using h)
      have e : (i + 1) * 2 = i * 2 + 2 := by omega
      simp only [waitVals, List.flatMap_cons, List.getElem_cons_succ] at *
      rw [e, show i * 2 + 2 + 1 = i * 2 + 1 + 2 by omega]
      simpa using this
theorem waitVals_snoc (l : List (Nat × ByteArray)) (p : Nat × ByteArray) : waitVals (l ++ [p]) = waitVals l ++ [.int .i64 (p.1 : Int), .string p.2] := by simp [waitVals]

/-- What the cells of the specification's disk say. -/
structure RefIs (w : World) (f : Nat → Value) (ow : Option Nat) (A : ADisk) : Prop where
  safe : ∀ i, i < 3120 → f i = .string (A.safe i)
  own : w.ownsRow 0 143 2 (f 3120) A.waits.length (waitVals A.waits)
  blk : (f 3120).ownBlock = ow
  armed : f 3121 = .int .i64 A.armed
  down : f 3122 = .bool A.down
  acts : f 3123 = .int .i64 A.acts
  falls : f 3124 = .int .i64 A.falls
  inside : ∀ p ∈ A.waits, p.1 < 3120
  armed0 : 0 ≤ A.armed ∧ A.armed ≤ 2 ^ 63 - 1
  acts0 : 0 ≤ A.acts
  falls0 : 0 ≤ A.falls
def RefAt (w : World) (b : Nat) (ow : Option Nat) (A : ADisk) : Prop := ∃ f, Raw w b 64 3125 f ∧ RefIs w f ow A
theorem RefIs.turn {S : Nat → Prop} {w w' : World} {f : Nat → Value} {ow : Option Nat} {A : ADisk} (h : RefIs w f ow A) (ht : Turn S w w') (how : ∀ k, ow = some k → ¬ S k) : RefIs w' f ow A :=
  { h with own := own_turn h.own ht (fun k hk => how k (by rw [← h.blk]; exact hk)) }
theorem RefAt.turn {S : Nat → Prop} {w w' : World} {b : Nat} {ow : Option Nat} {A : ADisk} (h : RefAt w b ow A) (ht : Turn S w w') (hb : ¬ S b) (how : ∀ k, ow = some k → ¬ S k) : RefAt w' b ow A := by
  obtain ⟨f, h1, h2⟩ := h
  exact ⟨f, h1.turn ht hb, h2.turn ht how⟩
theorem RefAt.new {w w' : World} {b : Nat} {ow : Option Nat} {A : ADisk} (h : RefAt w b ow A) (hn : New w w') : RefAt w' b ow A :=
  h.turn (S := fun _ => False) (Turn.of_new hn) (fun h => h) (fun _ _ h => h)
theorem RefAt.base {w : World} {b : Nat} {ow : Option Nat} {A : ADisk} (h : RefAt w b ow A) : ∃ c, w.heap[b]? = some (.cells c 64 (0, 0)) := by
  obtain ⟨f, ⟨cs, h1, _⟩, _⟩ := h
  exact ⟨cs, h1⟩
theorem own_base {w : World} {base : Nat} {e : TypeId} {size : Nat} {v : Value} {n : Nat} {xs : List Value} (h : w.ownsRow base e size v n xs) {k : Nat} (hk : v.ownBlock = some k) : ∃ c, w.heap[k]? = some (.cells c e (0, 0)) := by
  rcases h.2 with ⟨e, _⟩ | ⟨g, cap, cur, e, hg, hh, r⟩
  · rw [e] at hk; simp [Value.ownBlock] at hk
  · rw [e] at hk
    simp only [Value.ownBlock, Option.some.injEq] at hk
    subst hk
    exact ⟨_, hh⟩
theorem RefAt.row {w : World} {b : Nat} {ow : Option Nat} {A : ADisk} (h : RefAt w b ow A) {k : Nat} (hk : ow = some k) : ∃ c, w.heap[k]? = some (.cells c 143 (0, 0)) := by
  obtain ⟨f, _, hd⟩ := h
  exact own_base hd.own (hd.blk.trans hk)
theorem RefAt.typed {w : World} {b : Nat} {ow : Option Nat} {A : ADisk} (h : RefAt w b ow A) {k : Nat} (hk : its b ow k) : ∃ c t, w.heap[k]? = some (.cells c t (0, 0)) ∧ (t = 64 ∨ t = 143) := by
  rcases hk with rfl | hk
  · obtain ⟨c, e⟩ := h.base; exact ⟨c, 64, e, .inl rfl⟩
  · obtain ⟨c, e⟩ := h.row hk; exact ⟨c, 143, e, .inr rfl⟩
theorem RefAt.its_lt {w : World} {b : Nat} {ow : Option Nat} {A : ADisk} (h : RefAt w b ow A) {k : Nat} (hk : its b ow k) : k < w.heap.size := by
  obtain ⟨c, t, e, _⟩ := h.typed hk
  exact (Array.getElem?_eq_some_iff.1 e).1

def RefBack (b : Nat) (ow : Option Nat) (v : Value) (A : ADisk) (w : World) (e : Ending) (w' : World) : Prop := e = .returned v ∧ RefAt w' b ow A ∧ Turn (· = b) w w'
def RefMoved (b : Nat) (ow : Option Nat) (v : Value) (A : ADisk) (w : World) (e : Ending) (w' : World) : Prop :=
  e = .returned v ∧ ∃ ow', RefAt w' b ow' A ∧ (∀ k, ow' = some k → ow = some k ∨ w.heap.size ≤ k) ∧ Turn (its b ow) w w'
theorem RefBack.moved {b : Nat} {ow : Option Nat} {v : Value} {A : ADisk} {w w' : World} {e : Ending} (h : RefBack b ow v A w e w') : RefMoved b ow v A w e w' :=
  ⟨h.1, ow, h.2.1, fun k hk => .inl hk, h.2.2.mono fun k _ h => .inl h⟩

theorem ref_ne {w : World} {b n : Nat} {f : Nat → Value} (h : Raw w b 64 n f) {ow : Option Nat} {A : ADisk} (hd : RefIs w f ow A) : ∀ k, ow = some k → ¬ (k = b) := by
  intro k hk e
  subst e
  obtain ⟨c, hc⟩ := own_base hd.own (hd.blk.trans hk)
  exact h.typed (by decide) c (0, 0) hc
/-- Some of the cells 3121 to 3124 are laid anew. -/
theorem RefAt.laid {w w' : World} {b : Nat} {f f' : Nat → Value} {ow : Option Nat} {A A' : ADisk} (hr : Raw w b 64 3125 f) (hd : RefIs w f ow A) (hr' : Raw w' b 64 3125 f') (ht : Turn (· = b) w w')
    (h0 : ∀ i, i < 3121 → f' i = f i) (hs : A'.safe = A.safe) (hw : A'.waits = A.waits) (ha : f' 3121 = .int .i64 A'.armed) (h2 : f' 3122 = .bool A'.down) (hc : f' 3123 = .int .i64 A'.acts) (hf : f' 3124 = .int .i64 A'.falls)
    (a0 : 0 ≤ A'.armed ∧ A'.armed ≤ 2 ^ 63 - 1) (c0 : 0 ≤ A'.acts) (f0 : 0 ≤ A'.falls) : RefAt w' b ow A' := by
  have d := hd.turn ht (ref_ne hr hd)
  exact ⟨f', hr', fun i hi => by rw [h0 i (by omega), hs]; exact d.safe i hi, by rw [h0 3120 (by omega), hw]; exact d.own, by rw [h0 3120 (by omega)]; exact d.blk, ha, h2, hc, hf, by rw [hw]; exact d.inside, a0, c0, f0⟩

theorem refIsBlock_any (n : Int) (w : World) : Calls Tryz.prog 84 #[.int .i64 n] w fun e w' => e = .returned (.bool (isB n)) ∧ w = w' := by
  by_cases h : 0 ≤ n
  · go_enter Tryz.func84, Tryz.ntmps84
    go_wp2
    go_ret
    exact ⟨ret_bool (by simp [isB]; omega), rfl⟩
  · go_enter Tryz.func84, Tryz.ntmps84
    go_wp2
    go_ret
    exact ⟨ret_bool (by simp [isB]; omega), rfl⟩

set_option maxHeartbeats 800000 in
theorem refAct_any (b : Nat) (ow : Option Nat) (A : ADisk) (w : World) (h : RefAt w b ow A) (hdn : A.down = false) (hb : A.falls ≤ 1000000000) (hb2 : A.acts ≤ 1000000000) :
    Calls Tryz.prog 104 #[.pointer (some ⟨b, 0, none⟩)] w (RefBack b ow (.bool (decide (actE A = 0))) (actA A) w) := by
  obtain ⟨f, hr, hd⟩ := h
  have c1 := hr.cell 3121 (by omega)
  have c2 := hr.cell 3122 (by omega)
  have c3 := hr.cell 3123 (by omega)
  have c4 := hr.cell 3124 (by omega)
  have z1 := hr.frozen 3121
  have z2 := hr.frozen 3122
  have z3 := hr.frozen 3123
  have z4 := hr.frozen 3124
  rw [hd.armed] at c1
  rw [hd.down] at c2
  rw [hd.acts] at c3
  rw [hd.falls] at c4
  obtain ⟨a0, a1⟩ := hd.armed0
  have c0 := hd.acts0
  have f0 := hd.falls0
  have HD := hid hd
  have HR := hid hr
  have HN := hid hdn
  clear hd hr hdn
  by_cases e : A.armed = 1
  · have t : (A.armed == 1) = true := by simpa using e
    have E := hid e
    clear e
    have ht := (((Turn.refl (· = b) w).setCell (p := ⟨b, 3121, none⟩) rfl (.int .i64 0)).setCell (p := ⟨b, 3122, none⟩) rfl (.bool true)).setCell (p := ⟨b, 3124, none⟩) rfl (.int .i64 (A.falls + 1))
    have HF : Hid (RefBack b ow (.bool (decide (actE A = 0))) (actA A) w (.returned (.bool false)) (((w.setCell ⟨b, 3121, none⟩ (.int .i64 0)).setCell ⟨b, 3122, none⟩ (.bool true)).setCell ⟨b, 3124, none⟩ (.int .i64 (A.falls + 1)))) := hid (by
      have hA : actA A = { A with armed := 0, down := true, falls := A.falls + 1 } := by simp [actA, HN.out, E.out]
      refine ⟨by simp [actE, HN.out, E.out], ?_, ht⟩
      rw [hA]
      exact RefAt.laid HR.out HD.out (((HR.out.set 3121 _).set 3122 _).set 3124 _) ht (fun i hi => by rw [upd_other _ _ (by omega), upd_other _ _ (by omega), upd_other _ _ (by omega)]) rfl rfl (by simp [upd]) (by simp [upd]) (by simp [upd, HD.out.acts]) (by simp [upd]) zero_armed HD.out.acts0 (by show 0 ≤ A.falls + 1; omega))
    clear ht
    go_enter Tryz.func104, Tryz.ntmps104
    go_wp2
    go_ret
    exact HF.out
  · have t : (A.armed == 1) = false := by simpa using e
    have E := hid e
    clear e
    have HF : Hid (∀ m : Int, m = max (A.armed - 1) 0 → RefBack b ow (.bool (decide (actE A = 0))) (actA A) w (.returned (.bool true)) ((w.setCell ⟨b, 3121, none⟩ (.int .i64 m)).setCell ⟨b, 3123, none⟩ (.int .i64 (A.acts + 1)))) := fun m hm => by
      have ht := ((Turn.refl (· = b) w).setCell (p := ⟨b, 3121, none⟩) rfl (.int .i64 m)).setCell (p := ⟨b, 3123, none⟩) rfl (.int .i64 (A.acts + 1))
      have hA : actA A = { A with armed := m, acts := A.acts + 1 } := by simp [actA, HN.out, E.out, hm]
      refine ⟨by simp [actE, HN.out, E.out], ?_, ht⟩
      rw [hA]
      exact RefAt.laid HR.out HD.out ((HR.out.set 3121 _).set 3123 _) ht (fun i hi => by rw [upd_other _ _ (by omega), upd_other _ _ (by omega)]) rfl rfl (by simp [upd]) (by simp [upd, HD.out.down]) (by simp [upd]) (by simp [upd, HD.out.falls]) ⟨by show 0 ≤ m; omega, by show m ≤ 2 ^ 63 - 1; omega⟩ (by show 0 ≤ A.acts + 1; omega) HD.out.falls0
    go_enter Tryz.func104, Tryz.ntmps104
    go_wp2
    all_goals go_ret
    all_goals exact HF.out _ (by omega)

set_option maxHeartbeats 800000 in
theorem refArm_any (b : Nat) (ow : Option Nat) (A : ADisk) (n : Int) (w : World) (h : RefAt w b ow A) (hn : n ≤ 2 ^ 63 - 1) :
    Calls Tryz.prog 36 #[.pointer (some ⟨b, 0, none⟩), .int .i64 n] w (RefBack b ow (.tuple #[]) { A with armed := max n 0 } w) := by
  obtain ⟨f, hr, hd⟩ := h
  have c2 := hr.cell 3121 (by omega)
  have z2 := hr.frozen 3121
  rw [hd.armed] at c2
  have HD := hid hd
  have HR := hid hr
  clear hd hr
  have HF : Hid (∀ m : Int, m = max n 0 → RefBack b ow (.tuple #[]) { A with armed := max n 0 } w (.returned (.tuple #[])) (w.setCell ⟨b, 3121, none⟩ (.int .i64 m))) := fun m hm => by
    have ht := (Turn.refl (· = b) w).setCell (p := ⟨b, 3121, none⟩) rfl (.int .i64 m)
    refine ⟨rfl, ?_, ht⟩
    rw [← hm]
    exact RefAt.laid HR.out HD.out (HR.out.set 3121 _) ht (fun i hi => by rw [upd_other _ _ (by omega)]) rfl rfl (by simp [upd]) (by simp [upd, HD.out.down]) (by simp [upd, HD.out.acts]) (by simp [upd, HD.out.falls]) ⟨by show 0 ≤ m; omega, by show m ≤ 2 ^ 63 - 1; omega⟩ HD.out.acts0 HD.out.falls0
  go_enter Tryz.func36, Tryz.ntmps36
  go_wp2
  all_goals go_end0
  all_goals exact HF.out _ (by omega)

theorem ref_slice {w : World} {f : Nat → Value} {ow : Option Nat} {A : ADisk} (h : RefIs w f ow A) : ∃ p c, f 3120 = .slice p A.waits.length c ∧ (0 < A.waits.length → ∃ g, p = some ⟨g, 0, none⟩) := by
  rcases h.own.2 with ⟨e, h0⟩ | ⟨g, cap, cur, e, _⟩
  · exact ⟨_, _, by rw [e, h0], fun h => by omega⟩
  · exact ⟨_, _, e, fun _ => ⟨g, rfl⟩⟩

theorem refDown_any (b : Nat) (ow : Option Nat) (A : ADisk) (w : World) (h : RefAt w b ow A) :
    Calls Tryz.prog 69 #[.pointer (some ⟨b, 0, none⟩)] w fun e w' => e = .returned (.bool A.down) ∧ w = w' := by
  obtain ⟨f, hr, hd⟩ := h
  have c1 := hr.cell 3122 (by omega)
  rw [hd.down] at c1
  clear hr hd
  go_enter Tryz.func69, Tryz.ntmps69
  go_wp2
  go_ret
  exact ⟨rfl, rfl⟩
theorem refActs_any (b : Nat) (ow : Option Nat) (A : ADisk) (w : World) (h : RefAt w b ow A) :
    Calls Tryz.prog 56 #[.pointer (some ⟨b, 0, none⟩)] w fun e w' => e = .returned (.int .i64 A.acts) ∧ w = w' := by
  obtain ⟨f, hr, hd⟩ := h
  have c1 := hr.cell 3123 (by omega)
  rw [hd.acts] at c1
  clear hr hd
  go_enter Tryz.func56, Tryz.ntmps56
  go_wp2
  go_ret
  exact ⟨rfl, rfl⟩
end Go.Proofs.YtdccbceaajnajaaGreat

namespace Go.Proofs.YtdccbceaajnajaaGreat
open Go.RowKit
set_option linter.unusedSimpArgs false
set_option linter.unusedVariables false

/-- One waiting write in memory. -/
theorem RefIs.at {w : World} {f : Nat → Value} {ow : Option Nat} {A : ADisk} (h : RefIs w f ow A) {p : Option Addr} {n c : Nat} (he : f 3120 = .slice p n c) {j : Nat} (hj : j < A.waits.length) :
    n = A.waits.length ∧ ∃ g, p = some ⟨g, 0, none⟩ ∧ g < w.heap.size ∧ w.cell? ⟨g, j * 2, none⟩ = some (.int .i64 (A.waits[j].1 : Int)) ∧ w.cell? ⟨g, j * 2 + 1, none⟩ = some (.string A.waits[j].2) := by
  have ho := h.own
  obtain ⟨g, cap, e, _, hg⟩ := ho.form (by omega)
  rw [he] at e ho
  injection e with e1 e2 e3
  subst e1
  have hc := fun j u hu => World.ownsRow.cells ho (g := g) rfl j u hu
  obtain ⟨w0, w1⟩ := waitVals_get A.waits j hj
  have hadd : ∀ i, (⟨g, 0, none⟩ : Addr).add i = ⟨g, i, none⟩ := fun i => by unfold Addr.add; split <;> simp_all
  refine ⟨e2, g, rfl, hg, ?_, ?_⟩
  · have := hc (j * 2) _ w0
    rwa [hadd] at this
  · have := hc (j * 2 + 1) _ w1
    rwa [hadd] at this

theorem refThere_any (b : Nat) (ow : Option Nat) (A : ADisk) (m : Nat) (w : World) (h : RefAt w b ow A) (hm : m < 3120) (hb3 : A.waits.length ≤ 1000000000) :
    Calls Tryz.prog 85 #[.pointer (some ⟨b, 0, none⟩), .int .i64 m] w fun e w' => e = .returned (.string (layAll A.waits A.safe m)) ∧ w = w' := by
  obtain ⟨f, hr, hd⟩ := h
  have c0 := hr.cell m (by omega)
  have c1 := hr.cell 3120 (by omega)
  rw [hd.safe m hm] at c0
  obtain ⟨p, c, ep, _⟩ := ref_slice hd
  rw [ep] at c1
  have HD := hid hd
  have HE := hid ep
  clear hr hd ep
  go_enter Tryz.func85, Tryz.ntmps85
  go_wp2
  go_loopw [5, 6] (fun s i wr => ∃ j : Nat, j ≤ A.waits.length ∧ i = .int .i64 j ∧ s = .string (layAll (A.waits.take j) A.safe m) ∧ w = wr) (fun _ i _ => A.waits.length - (intOf i).toNat)
  case atStart => exact ⟨0, Nat.zero_le _, rfl, rfl, rfl⟩
  case round =>
    obtain ⟨j, hj, rfl, rfl, rfl⟩ := hrel
    by_cases hlt : j < A.waits.length
    · obtain ⟨_, g, rfl, _, d0, d1⟩ := HD.out.at HE.out hlt
      have HT := hid (layAll_take hlt A.safe)
      generalize hx : A.waits[j] = x at *
      clear hx
      by_cases e : x.1 = m
      · have t : ((x.1 : Int) == (m : Int)) = true := by simp [e]
        have E := hid e
        clear e
        go_wp2
        go_roundw
        case rel => exact ⟨j + 1, by omega, by go_num, by rw [HT.out]; simp [lay1, E.out], trivial⟩
        case measure => simp [intOf]; omega
      · have t : ((x.1 : Int) == (m : Int)) = false := by simp; omega
        have E := hid e
        go_wp2
        go_roundw
        case rel => exact ⟨j + 1, by omega, by go_num, by rw [HT.out]; simp [lay1, Ne.symm E.out], trivial⟩
        case measure => simp [intOf]; omega
    · obtain rfl : j = A.waits.length := by omega
      go_wp2
      go_ret
      exact ⟨by rw [List.take_length]; rfl, rfl⟩

/-- A text's bytes, in new memory. -/
theorem text_bytes (w : World) (s : ByteArray) (hs : s.size ≤ maxLen) : ∃ k w', (Go.convert 9 29 (.string s)).run Tryz.prog w = .ok (.slice (some ⟨w.heap.size, 0, none⟩) s.size k) w' ∧ Content w' (.slice (some ⟨w.heap.size, 0, none⟩) s.size k) s ∧ New w w' := by
  refine ⟨_, _, Lib.run_convert_string_bytes (P := Tryz.prog) w 9 29 5 s Tryz.underlying9 Tryz.underlying29 Tryz.underlying5, ⟨⟨_, _, rfl, grownCap_ge _ _ _ _, grownCap_le_maxLen _ _ _ _ hs, fun h0 => ⟨_, 0, rfl, ?_, fun i hi => ?_⟩⟩, fun k hk => ?_⟩, ?_⟩
  · rw [Lib.bytesWorld_size]; omega
  · have hi' : i < s.size := by rw [byteVals_length] at hi; exact hi
    rw [Nat.zero_add, Lib.bytesWorld_cell w 5 s i hi', byteVals_getD s i hi']
    simp [List.getD_eq_getElem?_getD, hi']
    rfl
  · simp only [Value.ownBlock, Option.some.injEq] at hk
    subst hk
    exact ⟨_, _, Lib.bytesWorld_at_new w 5 s⟩
  · exact ⟨rfl, rfl, rfl, by rw [Lib.bytesWorld_size]; omega, fun k hk => Lib.bytesWorld_at_old w 5 s k hk⟩

set_option maxHeartbeats 1000000 in
set_option maxRecDepth 100000 in
theorem refRead_any (b : Nat) (ow : Option Nat) (A : ADisk) (n : Int) (w : World) (h : RefAt w b ow A) (hs : Small A) (hb3 : A.waits.length ≤ 1000000000) :
    Calls Tryz.prog 57 #[.pointer (some ⟨b, 0, none⟩), .int .i64 n] w fun e w' => ∃ v, e = .returned (.tuple #[v, .int .i64 (readE A n)]) ∧ Content w' v (readB A n) ∧ New w w' := by
  have H := hid h
  obtain ⟨f, hr, hd⟩ := h
  have c1 := hr.cell 3122 (by omega)
  rw [hd.down] at c1
  clear hr hd
  cases hb : isB n with
  | false =>
    have er : readE A n = 2 := by simp [readE, hb]
    have HF : Hid (Content w (.slice none 0 0) (readB A n)) := hid (by simp only [readB, er]; exact Content.nil w)
    go_enter Tryz.func57, Tryz.ntmps57
    go_wp2_with fail
    refine (refIsBlock_any n w).mono ?_
    rintro e w' ⟨rfl, rfl⟩
    rw [hb]
    go_wp2
    go_ret2
    exact ⟨.slice none 0 0, by rw [er]; rfl, HF.out, New.refl _⟩
  | true =>
    cases hdn : A.down with
    | true =>
      have er : readE A n = 7 := by simp [readE, hb, hdn]
      have HF : Hid (Content w (.slice none 0 0) (readB A n)) := hid (by simp only [readB, er]; exact Content.nil w)
      rw [hdn] at c1
      go_enter Tryz.func57, Tryz.ntmps57
      go_wp2_with fail
      refine (refIsBlock_any n w).mono ?_
      rintro e w' ⟨rfl, rfl⟩
      rw [hb]
      go_wp2
      go_ret2
      exact ⟨.slice none 0 0, by rw [er]; rfl, HF.out, New.refl _⟩
    | false =>
      have er : readE A n = 0 := by simp [readE, hb, hdn]
      rw [hdn] at c1
      obtain ⟨m, rfl⟩ : ∃ m : Nat, n = m := ⟨n.toNat, by unfold isB at hb; simp at hb; omega⟩
      have hm : m < 3120 := isB_lt hb
      have eb : readB A m = layAll A.waits A.safe m := by simp only [readB, er, if_true, Int.toNat_natCast]
      have hsz := hs.lay m hm
      rw [← eb] at hsz
      obtain ⟨k, w2, hrun, hc2, hn2⟩ := text_bytes w (readB A m) (by unfold maxLen; omega)
      have HF := hid (And.intro hc2 hn2)
      have HE := hid er
      clear er hc2 hn2 hs hsz
      go_enter Tryz.func57, Tryz.ntmps57
      go_wp2_with fail
      refine (refIsBlock_any m w).mono ?_
      rintro e w' ⟨rfl, rfl⟩
      rw [hb]
      go_wp2_with fail
      refine (refThere_any b ow A m w H.out hm hb3).mono ?_
      rintro e w' ⟨rfl, rfl⟩
      rw [← eb]
      clear eb
      go_wp2
      go_ret2
      exact ⟨.slice (some ⟨w.heap.size, 0, none⟩) (readB A m).size k, by rw [HE.out]; rfl, HF.out.1, HF.out.2⟩

end Go.Proofs.YtdccbceaajnajaaGreat
