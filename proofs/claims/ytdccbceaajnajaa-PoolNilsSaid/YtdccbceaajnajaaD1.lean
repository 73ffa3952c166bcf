/- The small functions of disk.Disk, at every disk that was made: none, isBlock, fall, act, Start, Down, Waiting, Acts, Falls, Arm. -/
import Derived.Test.YtdccbceaajnajaaProg
import Derived.Test.YtdccbceaajnajaaD0
namespace Go.Proofs.Ytdccbceaajnajaa
open Go.RowKit
set_option linter.unusedSimpArgs false
set_option linter.unusedVariables false

/-- Is there such a block? -/
def isB (n : Int) : Bool := decide (0 ≤ n) && decide (n < 3120)
set_option maxHeartbeats 400000 in
theorem isBlock_any (n : Int) (w : World) : Calls Try.prog 46 #[.int .i64 n] w fun e w' => e = .returned (.bool (isB n)) ∧ w = w' := by
  by_cases h : 0 ≤ n
  · go_enter Try.func46, Try.ntmps46
    go_wp2
    go_ret
    exact ⟨ret_bool (by simp [isB]; omega), rfl⟩
  · go_enter Try.func46, Try.ntmps46
    go_wp2
    go_ret
    exact ⟨ret_bool (by simp [isB]; omega), rfl⟩

set_option maxHeartbeats 400000 in
theorem none_no (b : Nat) (w : World) (hm : w.cell? ⟨b, 0, none⟩ = some (.bool true)) :
    Calls Try.prog 45 #[.pointer (some ⟨b, 0, none⟩)] w fun e w' => e = .returned (.bool false) ∧ w = w' := by
  go_enter Try.func45, Try.ntmps45
  go_wp2
  go_ret
  exact ⟨rfl, rfl⟩

theorem DiskIs.after {S : Nat → Prop} {w w' : World} {f f' : Nat → Value} {ow : Option Nat} {A A' : ADisk} (h : DiskIs w f ow A) (ht : Turn S w w') (hS : Apart S w) (how : ∀ k, ow = some k → ¬ S k)
    (h0 : ∀ i, i < 3122 → f' i = f i) (hs : A'.safe = A.safe) (hw : A'.waits = A.waits) (hd : f' 3122 = .bool A'.down) (ha : f' 3123 = .int .i64 A'.armed) (hc : f' 3124 = .int .i64 A'.acts) (hf : f' 3125 = .int .i64 A'.falls)
    (a0 : 0 ≤ A'.armed ∧ A'.armed ≤ 2 ^ 63 - 1) (c0 : 0 ≤ A'.acts) (f0 : 0 ≤ A'.falls) : DiskIs w' f' ow A' := by
  have g := h.turn ht hS how
  exact ⟨by rw [h0 0 (by omega)]; exact g.made, fun i hi => by rw [h0 (1 + i) (by omega), hs]; exact g.safe i hi, by rw [h0 3121 (by omega), hw]; exact g.waits, hd, ha, hc, hf, by rw [hw]; exact g.inside, a0, c0, f0⟩

set_option maxHeartbeats 800000 in
theorem fall_any (b : Nat) (ow : Option Nat) (A : ADisk) (w : World) (h : DiskAt w b ow A) (hb : A.falls ≤ 1000000000) :
    Calls Try.prog 71 #[.pointer (some ⟨b, 0, none⟩)] w (DiskBack b ow (.tuple #[]) (fallA A) w) := by
  obtain ⟨f, hr, hd⟩ := h
  have c1 := hr.cell 3122 (by omega)
  have c2 := hr.cell 3125 (by omega)
  have z1 := hr.frozen 3122
  have z2 := hr.frozen 3125
  rw [hd.down] at c1
  rw [hd.falls] at c2
  have f0 := hd.falls0
  have HD := hid hd
  have HR := hid hr
  clear hd hr
  cases hdn : A.down with
  | true =>
    rw [hdn] at c1
    have HN := hid hdn
    clear hdn
    go_enter Try.func71, Try.ntmps71
    go_wp2
    go_end0
    have ht := (Turn.refl (· = b) w).setCell (p := ⟨b, 3122, none⟩) rfl (.bool true)
    refine ⟨rfl, ⟨_, HR.out.set 3122 (.bool true), HD.out.after ht (apart_disk HR.out) (waits_ne HR.out HD.out.waits) (fun i hi => upd_other _ _ (by omega)) rfl rfl (upd_same _ _ _) (by rw [upd_other _ _ (by omega)]; exact HD.out.armed) (by rw [upd_other _ _ (by omega)]; exact HD.out.acts) (by rw [upd_other _ _ (by omega), HD.out.falls]; simp [fallA, HN.out]) HD.out.armed0 HD.out.acts0 (by simp [fallA, HN.out]; exact f0)⟩, ht⟩
  | false =>
    rw [hdn] at c1
    have HN := hid hdn
    clear hdn
    go_enter Try.func71, Try.ntmps71
    go_wp2
    go_end0
    have ht := ((Turn.refl (· = b) w).setCell (p := ⟨b, 3125, none⟩) rfl (.int .i64 (A.falls + 1))).setCell (p := ⟨b, 3122, none⟩) rfl (.bool true)
    refine ⟨rfl, ⟨_, (HR.out.set 3125 _).set 3122 (.bool true), HD.out.after ht (apart_disk HR.out) (waits_ne HR.out HD.out.waits) (fun i hi => by rw [upd_other _ _ (by omega), upd_other _ _ (by omega)]) rfl rfl (upd_same _ _ _) (by rw [upd_other _ _ (by omega), upd_other _ _ (by omega)]; exact HD.out.armed) (by rw [upd_other _ _ (by omega), upd_other _ _ (by omega)]; exact HD.out.acts) (by rw [upd_other _ _ (by omega), upd_same]; simp [fallA, HN.out]) HD.out.armed0 HD.out.acts0 (by simp [fallA, HN.out]; omega)⟩, ht⟩

/-- Some of the cells 3122 to 3125 are laid anew. -/
theorem DiskAt.laid {w w' : World} {b : Nat} {f f' : Nat → Value} {ow : Option Nat} {A A' : ADisk} (hr : Raw w b 63 3126 f) (hd : DiskIs w f ow A) (hr' : Raw w' b 63 3126 f') (ht : Turn (· = b) w w')
    (h0 : ∀ i, i < 3122 → f' i = f i) (hs : A'.safe = A.safe) (hw : A'.waits = A.waits) (h2 : f' 3122 = .bool A'.down) (ha : f' 3123 = .int .i64 A'.armed) (hc : f' 3124 = .int .i64 A'.acts) (hf : f' 3125 = .int .i64 A'.falls)
    (a0 : 0 ≤ A'.armed ∧ A'.armed ≤ 2 ^ 63 - 1) (c0 : 0 ≤ A'.acts) (f0 : 0 ≤ A'.falls) : DiskAt w' b ow A' :=
  ⟨f', hr', hd.after ht (apart_disk hr) (waits_ne hr hd.waits) h0 hs hw h2 ha hc hf a0 c0 f0⟩

theorem zero_armed : (0 : Int) ≤ 0 ∧ (0 : Int) ≤ 2 ^ 63 - 1 := ⟨by omega, by omega⟩

set_option maxHeartbeats 800000 in
theorem act_any (b : Nat) (ow : Option Nat) (A : ADisk) (w : World) (h : DiskAt w b ow A) (hb : A.falls ≤ 1000000000) (hb2 : A.acts ≤ 1000000000) :
    Calls Try.prog 55 #[.pointer (some ⟨b, 0, none⟩)] w (DiskBack b ow (.int .i64 (actE A)) (actA A) w) := by
  have h' := h
  obtain ⟨f, hr, hd⟩ := h
  have c1 := hr.cell 3122 (by omega)
  have c2 := hr.cell 3123 (by omega)
  have c3 := hr.cell 3124 (by omega)
  have z2 := hr.frozen 3123
  have z3 := hr.frozen 3124
  rw [hd.down] at c1
  rw [hd.armed] at c2
  rw [hd.acts] at c3
  obtain ⟨a0, a1⟩ := hd.armed0
  have c0 := hd.acts0
  have HD := hid hd
  have HR := hid hr
  clear hd hr
  cases hdn : A.down with
  | true =>
    rw [hdn] at c1
    have HN := hid hdn
    clear hdn
    go_enter Try.func55, Try.ntmps55
    go_wp2
    go_ret
    exact ⟨by simp [actE, HN.out], by simp [actA, HN.out]; exact h', Turn.refl _ _⟩
  | false =>
    rw [hdn] at c1
    have HN := hid hdn
    clear hdn
    by_cases e : A.armed = 1
    · have t : (A.armed == 1) = true := by simpa using e
      have E := hid e
      clear e
      have ht := (Turn.refl (· = b) w).setCell (p := ⟨b, 3123, none⟩) rfl (.int .i64 0)
      have hA : DiskAt (w.setCell ⟨b, 3123, none⟩ (.int .i64 0)) b ow { A with armed := 0 } :=
        DiskAt.laid HR.out HD.out (HR.out.set 3123 _) ht (fun i hi => upd_other _ _ (by omega)) rfl rfl (by simp [upd, HD.out.down]) (by simp [upd]) (by simp [upd, HD.out.acts]) (by simp [upd, HD.out.falls]) zero_armed HD.out.acts0 HD.out.falls0
      go_enter Try.func55, Try.ntmps55
      go_wp2_with fail
      refine (fall_any b ow _ _ hA hb).mono ?_
      rintro e w1 ⟨rfl, hA1, ht1⟩
      go_wp2
      go_ret
      exact ⟨by simp [actE, HN.out, E.out], by simp only [actA, HN.out, E.out]; simpa [fallA, HN.out] using hA1, ht.trans ht1⟩
    · have t : (A.armed == 1) = false := by simpa using e
      have E := hid e
      clear e
      have HF : Hid (∀ m : Int, m = max (A.armed - 1) 0 → DiskBack b ow (.int .i64 (actE A)) (actA A) w (.returned (.int .i64 0)) ((w.setCell ⟨b, 3123, none⟩ (.int .i64 m)).setCell ⟨b, 3124, none⟩ (.int .i64 (A.acts + 1)))) := fun m hm => by
        have ht := ((Turn.refl (· = b) w).setCell (p := ⟨b, 3123, none⟩) rfl (.int .i64 m)).setCell (p := ⟨b, 3124, none⟩) rfl (.int .i64 (A.acts + 1))
        have hA : actA A = { A with armed := m, acts := A.acts + 1 } := by simp [actA, HN.out, E.out, hm]
        refine ⟨by simp [actE, HN.out, E.out], ?_, ht⟩
        rw [hA]
        exact DiskAt.laid HR.out HD.out ((HR.out.set 3123 _).set 3124 _) ht (fun i hi => by rw [upd_other _ _ (by omega), upd_other _ _ (by omega)]) rfl rfl (by simp [upd, HD.out.down]) (by simp [upd]) (by simp [upd]) (by simp [upd, HD.out.falls]) ⟨by show 0 ≤ m; omega, by show m ≤ 2 ^ 63 - 1; omega⟩ (by show 0 ≤ A.acts + 1; omega) HD.out.falls0
      go_enter Try.func55, Try.ntmps55
      go_wp2
      all_goals go_ret
      all_goals exact HF.out _ (by omega)

theorem waits_slice {w : World} {v : Value} {ow : Option Nat} {l : List (Nat × ByteArray)} (h : Waits w v ow l) : ∃ p c, v = .slice p l.length c ∧ l.length ≤ c := by
  obtain ⟨⟨xs, h1, _⟩, _⟩ := h
  rcases h1.2 with ⟨rfl, e⟩ | ⟨g, cap, cur, rfl, _, _, h, _⟩
  · exact ⟨_, _, by rw [e], by omega⟩
  · exact ⟨_, _, rfl, h⟩

set_option maxHeartbeats 400000 in
theorem down_any (b : Nat) (ow : Option Nat) (A : ADisk) (w : World) (h : DiskAt w b ow A) :
    Calls Try.prog 35 #[.pointer (some ⟨b, 0, none⟩)] w fun e w' => e = .returned (.bool A.down) ∧ w = w' := by
  obtain ⟨f, hr, hd⟩ := h
  have c0 := hr.cell 0 (by omega)
  have c1 := hr.cell 3122 (by omega)
  rw [hd.made] at c0
  rw [hd.down] at c1
  clear hd hr
  go_enter Try.func35, Try.ntmps35
  go_wp2_with fail
  refine (none_no b w c0).mono ?_
  rintro e w' ⟨rfl, rfl⟩
  go_wp2
  go_ret
  exact ⟨rfl, rfl⟩

end Go.Proofs.Ytdccbceaajnajaa
