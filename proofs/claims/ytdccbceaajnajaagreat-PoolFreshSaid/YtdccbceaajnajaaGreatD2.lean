/- Words for a disk in memory: its cells, its waiting writes, what its blocks hold; and what each call makes of it, in plain words. The small functions of disk.Disk, at every disk that was made: none, isBlock, fall, act, Start, Down, Waiting, Acts, Falls, Arm. slices.Clone at []byte and at []disk.write, for all slices: what it returns has the same elements, in new memory. -/
import Derived.Test.YtdccbceaajnajaaGreatA9
import Derived.Maps.AppendAt
import Derived.Test.YtdccbceaajnajaaGreatProg
import Derived.Test.YtdccbceaajnajaaGreatA7
namespace Go.Proofs.YtdccbceaajnajaaGreat
open Go.RowKit
set_option linter.unusedVariables false

/-- Only blocks of S have turned. -/
structure Turn (S : Nat → Prop) (w w' : World) : Prop where
  os : w'.os = w.os
  tape : w'.tape = w.tape
  output : w'.output = w.output
  size : w.heap.size ≤ w'.heap.size
  block : ∀ k, k < w.heap.size → ¬ S k → w'.heap[k]? = w.heap[k]?
theorem Turn.of_new {S : Nat → Prop} {w w' : World} (h : New w w') : Turn S w w' := ⟨h.os, h.tape, h.output, h.size, fun k hk _ => h.block k hk⟩
theorem Turn.refl (S : Nat → Prop) (w : World) : Turn S w w := ⟨rfl, rfl, rfl, Nat.le_refl _, fun _ _ _ => rfl⟩
theorem Turn.trans {S : Nat → Prop} {a b c : World} (h : Turn S a b) (k : Turn S b c) : Turn S a c :=
  ⟨k.os.trans h.os, k.tape.trans h.tape, k.output.trans h.output, Nat.le_trans h.size k.size, fun i hi hs => (k.block i (Nat.lt_of_lt_of_le hi h.size) hs).trans (h.block i hi hs)⟩
theorem Turn.mono {S T : Nat → Prop} {a b : World} (h : Turn S a b) (hST : ∀ k, k < a.heap.size → S k → T k) : Turn T a b := ⟨h.os, h.tape, h.output, h.size, fun k hk hT => h.block k hk fun hs => hT (hST k hk hs)⟩
theorem Turn.setCell {S : Nat → Prop} {a w : World} (h : Turn S a w) {p : Addr} (hp : S p.block) (u : Value) : Turn S a (w.setCell p u) :=
  h.trans ⟨rfl, rfl, rfl, by simp [World.setCell], fun k hk hs => Below.heap_setCell _ _ _ _ (fun e => hs (e ▸ hp))⟩
theorem Turn.drew {S : Nat → Prop} {a w : World} (h : Turn S a w) : Turn S a w.drew := ⟨h.os, h.tape, h.output, h.size, h.block⟩
theorem Turn.below {S : Nat → Prop} {w w' : World} (h : Turn S w w') {B : Nat} (hS : ∀ k, S k → B ≤ k) (hB : B ≤ w.heap.size) : Below B w w' :=
  ⟨h.os, h.tape, h.output, h.size, fun k hk => h.block k (by omega) (fun hs => by have := hS k hs; omega)⟩

/-- The n cells of block b are f. -/
def Raw (w : World) (b : Nat) (t : TypeId) (n : Nat) (f : Nat → Value) : Prop := ∃ cs, w.heap[b]? = some (.cells cs t (0, 0)) ∧ cs.size = n ∧ ∀ i, i < n → cs[i]? = some (f i)
def upd (f : Nat → Value) (i : Nat) (v : Value) : Nat → Value := fun j => if j = i then v else f j
theorem upd_same (f : Nat → Value) (i : Nat) (v : Value) : upd f i v i = v := by simp [upd]
theorem upd_other (f : Nat → Value) {i j : Nat} (v : Value) (h : j ≠ i) : upd f i v j = f j := by simp [upd, h]
theorem Raw.lt {w : World} {b : Nat} {t : TypeId} {n : Nat} {f : Nat → Value} (h : Raw w b t n f) : b < w.heap.size := by
  obtain ⟨cs, h1, _⟩ := h
  exact (Array.getElem?_eq_some_iff.1 h1).1
theorem Raw.cell {w : World} {b : Nat} {t : TypeId} {n : Nat} {f : Nat → Value} (h : Raw w b t n f) (i : Nat) (hi : i < n) : w.cell? ⟨b, i, none⟩ = some (f i) := by
  obtain ⟨cs, h1, h2, h3⟩ := h
  simp only [World.cell?, h1]
  exact h3 i hi
theorem Raw.frozen {w : World} {b : Nat} {t : TypeId} {n : Nat} {f : Nat → Value} (h : Raw w b t n f) (i : Nat) : w.frozen? ⟨b, i, none⟩ = false := by
  obtain ⟨cs, h1, _⟩ := h
  simp only [World.frozen?, h1]; simp
theorem Raw.set {w : World} {b : Nat} {t : TypeId} {n : Nat} {f : Nat → Value} (h : Raw w b t n f) (i : Nat) (v : Value) : Raw (w.setCell ⟨b, i, none⟩ v) b t n (upd f i v) := by
  obtain ⟨cs, h1, h2, h3⟩ := h
  refine ⟨cs.setIfInBounds i v, heap_setCell_same w b i cs t v h1, by simpa using h2, fun j hj => ?_⟩
  rw [Array.getElem?_setIfInBounds]
  by_cases e : i = j
  · subst e; rw [if_pos rfl, if_pos (by omega), upd_same]
  · rw [if_neg e, h3 j hj, upd_other _ _ (fun h => e h.symm)]
theorem Raw.turn {S : Nat → Prop} {w w' : World} {b : Nat} {t : TypeId} {n : Nat} {f : Nat → Value} (h : Raw w b t n f) (ht : Turn S w w') (hb : ¬ S b) : Raw w' b t n f := by
  have hl := h.lt
  obtain ⟨cs, h1, h2, h3⟩ := h
  exact ⟨cs, by rw [ht.block b hl hb]; exact h1, h2, h3⟩
theorem Raw.typed {w : World} {b : Nat} {t : TypeId} {n : Nat} {f : Nat → Value} (h : Raw w b t n f) {t' : TypeId} (ht : t ≠ t') (c : Array Value) (fr : Nat × Nat) : w.heap[b]? ≠ some (.cells c t' fr) := by
  obtain ⟨cs, h1, _⟩ := h
  rw [h1]
  intro e
  injection e with e
  injection e with _ e2 _
  exact ht e2

/-- No block of S is one of bytes. -/
def Apart (S : Nat → Prop) (w : World) : Prop := ∀ k c fr, S k → w.heap[k]? ≠ some (.cells c 5 fr)
/-- Bytes that lie in a block of bytes of their own. -/
def Content (w : World) (v : Value) (s : ByteArray) : Prop := Bytes w v s ∧ ∀ k, v.ownBlock = some k → ∃ c fr, w.heap[k]? = some (.cells c 5 fr)
theorem Content.turn {S : Nat → Prop} {w w' : World} {v : Value} {s : ByteArray} (h : Content w v s) (ht : Turn S w w') (hS : Apart S w) : Content w' v s := by
  obtain ⟨⟨p, c, rfl, h1, h2, h3⟩, h4⟩ := h
  have hk : ∀ k, (Value.slice p s.size c).ownBlock = some k → w'.heap[k]? = w.heap[k]? := fun k hk => by
    obtain ⟨cs, fr, e⟩ := h4 k hk
    exact ht.block k (Array.getElem?_eq_some_iff.1 e).1 (fun hs => hS k cs fr hs e)
  refine ⟨⟨p, c, rfl, h1, h2, fun h0 => ?_⟩, fun k hk' => ?_⟩
  · obtain ⟨b, o, rfl, hb, hc⟩ := h3 h0
    refine ⟨b, o, rfl, Nat.lt_of_lt_of_le hb ht.size, fun i hi => ?_⟩
    rw [World.cell?_of_block (w := w) (a := ⟨b, o + i, none⟩) (hk b rfl)]
    exact hc i hi
  · rw [hk k hk']; exact h4 k hk'
theorem Content.nil (w : World) : Content w (.slice none 0 0) ByteArray.empty := ⟨⟨Option.none, 0, rfl, Nat.le_refl _, by decide, fun h => absurd h (by decide)⟩, fun k hk => by simp [Value.ownBlock] at hk⟩

/-- What a disk is. -/
structure ADisk where
  safe : Nat → ByteArray
  waits : List (Nat × ByteArray)
  down : Bool
  armed : Int
  acts : Int
  falls : Int

/-- The waiting writes, in a row of the disk's own. -/
structure Waits (w : World) (v : Value) (ow : Option Nat) (l : List (Nat × ByteArray)) : Prop where
  own : ∃ xs, w.ownsRow 0 111 2 v l.length xs ∧ ∀ i (h : i < l.length), xs[i * 2]? = some (.int .i64 l[i].1) ∧ ∃ u, xs[i * 2 + 1]? = some u ∧ Content w u l[i].2
  blk : v.ownBlock = ow
theorem Waits.turn {S : Nat → Prop} {w w' : World} {v : Value} {ow : Option Nat} {l : List (Nat × ByteArray)} (h : Waits w v ow l) (ht : Turn S w w') (hS : Apart S w) (how : ∀ k, ow = some k → ¬ S k) : Waits w' v ow l := by
  obtain ⟨⟨xs, h1, h2⟩, h3⟩ := h
  refine ⟨⟨xs, ⟨h1.1, ?_⟩, fun i hi => ?_⟩, h3⟩
  · rcases h1.2 with h | ⟨g, cap, cur, rfl, hg, hh, r⟩
    · exact .inl h
    · exact .inr ⟨g, cap, cur, rfl, hg, by rw [ht.block g (Array.getElem?_eq_some_iff.1 hh).1 (how g (by rw [← h3]; rfl))]; exact hh, r⟩
  · obtain ⟨e1, u, e2, e3⟩ := h2 i hi
    exact ⟨e1, u, e2, e3.turn ht hS⟩

/-- What the cells of a disk say. -/
structure DiskIs (w : World) (f : Nat → Value) (ow : Option Nat) (A : ADisk) : Prop where
  made : f 0 = .bool true
  safe : ∀ i, i < 3120 → Content w (f (1 + i)) (A.safe i)
  waits : Waits w (f 3121) ow A.waits
  down : f 3122 = .bool A.down
  armed : f 3123 = .int .i64 A.armed
  acts : f 3124 = .int .i64 A.acts
  falls : f 3125 = .int .i64 A.falls
  inside : ∀ p ∈ A.waits, p.1 < 3120
  armed0 : 0 ≤ A.armed ∧ A.armed ≤ 2 ^ 63 - 1
  acts0 : 0 ≤ A.acts
  falls0 : 0 ≤ A.falls
/-- A disk lies at block b; its waiting writes at block ow. -/
def DiskAt (w : World) (b : Nat) (ow : Option Nat) (A : ADisk) : Prop := ∃ f, Raw w b 80 3126 f ∧ DiskIs w f ow A
theorem DiskIs.turn {S : Nat → Prop} {w w' : World} {f : Nat → Value} {ow : Option Nat} {A : ADisk} (h : DiskIs w f ow A) (ht : Turn S w w') (hS : Apart S w) (how : ∀ k, ow = some k → ¬ S k) : DiskIs w' f ow A :=
  { h with safe := fun i hi => (h.safe i hi).turn ht hS, waits := h.waits.turn ht hS how }
theorem DiskAt.turn {S : Nat → Prop} {w w' : World} {b : Nat} {ow : Option Nat} {A : ADisk} (h : DiskAt w b ow A) (ht : Turn S w w') (hS : Apart S w) (hb : ¬ S b) (how : ∀ k, ow = some k → ¬ S k) : DiskAt w' b ow A := by
  obtain ⟨f, h1, h2⟩ := h
  exact ⟨f, h1.turn ht hb, h2.turn ht hS how⟩
theorem apart_none (w : World) : Apart (fun _ => False) w := fun _ _ _ h => h.elim
theorem DiskAt.new {w w' : World} {b : Nat} {ow : Option Nat} {A : ADisk} (h : DiskAt w b ow A) (hn : New w w') : DiskAt w' b ow A :=
  h.turn (S := fun _ => False) (Turn.of_new hn) (apart_none w) (fun h => h) (fun _ _ h => h)
theorem DiskAt.lt {w : World} {b : Nat} {ow : Option Nat} {A : ADisk} (h : DiskAt w b ow A) : b < w.heap.size := by obtain ⟨f, h1, _⟩ := h; exact h1.lt

/-! What the calls make of it. -/
def fallA (A : ADisk) : ADisk := { A with down := true, falls := if A.down then A.falls else A.falls + 1 }
def actE (A : ADisk) : Int := if A.down then 7 else if A.armed = 1 then 7 else 0
def actA (A : ADisk) : ADisk := if A.down then A else if A.armed = 1 then { A with armed := 0, down := true, falls := A.falls + 1 } else { A with armed := max (A.armed - 1) 0, acts := A.acts + 1 }

/-- Behind a call that has turned cells of the disk alone. -/
def DiskBack (b : Nat) (ow : Option Nat) (v : Value) (A : ADisk) (w : World) (e : Ending) (w' : World) : Prop := e = .returned v ∧ DiskAt w' b ow A ∧ Turn (· = b) w w'

theorem apart_disk {w : World} {b n : Nat} {f : Nat → Value} (h : Raw w b 80 n f) : Apart (· = b) w := fun k c fr hk => by subst hk; exact h.typed (by decide) c fr
theorem waits_ne {w : World} {b n : Nat} {f : Nat → Value} (h : Raw w b 80 n f) {v : Value} {ow : Option Nat} {l : List (Nat × ByteArray)} (hw : Waits w v ow l) : ∀ k, ow = some k → ¬ (k = b) := by
  intro k hk e
  subst e
  obtain ⟨⟨xs, h1, _⟩, h3⟩ := hw
  rcases h1.2 with ⟨rfl, _⟩ | ⟨g, cap, cur, rfl, hg, hh, r⟩
  · rw [← h3] at hk; simp [Value.ownBlock] at hk
  · rw [← h3] at hk
    simp only [Value.ownBlock, Option.some.injEq] at hk
    subst hk
    exact h.typed (by decide) cur (0, 0) hh

end Go.Proofs.YtdccbceaajnajaaGreat

namespace Go.Proofs.YtdccbceaajnajaaGreat
open Go.RowKit
set_option linter.unusedSimpArgs false
set_option linter.unusedVariables false

/-- Is there such a block? -/
def isB (n : Int) : Bool := decide (0 ≤ n) && decide (n < 3120)
set_option maxHeartbeats 400000 in
theorem isBlock_any (n : Int) (w : World) : Calls Tryz.prog 38 #[.int .i64 n] w fun e w' => e = .returned (.bool (isB n)) ∧ w = w' := by
  by_cases h : 0 ≤ n
  · go_enter Tryz.func38, Tryz.ntmps38
    go_wp2
    go_ret
    exact ⟨ret_bool (by simp [isB]; omega), rfl⟩
  · go_enter Tryz.func38, Tryz.ntmps38
    go_wp2
    go_ret
    exact ⟨ret_bool (by simp [isB]; omega), rfl⟩

set_option maxHeartbeats 400000 in
theorem none_no (b : Nat) (w : World) (hm : w.cell? ⟨b, 0, none⟩ = some (.bool true)) :
    Calls Tryz.prog 37 #[.pointer (some ⟨b, 0, none⟩)] w fun e w' => e = .returned (.bool false) ∧ w = w' := by
  go_enter Tryz.func37, Tryz.ntmps37
  go_wp2
  go_ret
  exact ⟨rfl, rfl⟩

theorem DiskIs.after {S : Nat → Prop} {w w' : World} {f f' : Nat → Value} {ow : Option Nat} {A A' : ADisk} (h : DiskIs w f ow A) (ht : Turn S w w') (hS : Apart S w) (how : ∀ k, ow = some k → ¬ S k)
    (h0 : ∀ i, i < 3122 → f' i = f i) (hs : A'.safe = A.safe) (hw : A'.waits = A.waits) (hd : f' 3122 = .bool A'.down) (ha : f' 3123 = .int .i64 A'.armed) (hc : f' 3124 = .int .i64 A'.acts) (hf : f' 3125 = .int .i64 A'.falls)
    (a0 : 0 ≤ A'.armed ∧ A'.armed ≤ 2 ^ 63 - 1) (c0 : 0 ≤ A'.acts) (f0 : 0 ≤ A'.falls) : DiskIs w' f' ow A' := by
  have g := h.turn ht hS how
  exact ⟨by rw [h0 0 (by omega)]; exact g.made, fun i hi => by rw [h0 (1 + i) (by omega), hs]; exact g.safe i hi, by rw [h0 3121 (by omega), hw]; exact g.waits, hd, ha, hc, hf, by rw [hw]; exact g.inside, a0, c0, f0⟩

set_option maxHeartbeats 800000 in
theorem fall_any (b : Nat) (ow : Option Nat) (A : ADisk) (w : World) (h : DiskAt w b ow A) (hb : A.falls ≤ 1000000000) :
    Calls Tryz.prog 108 #[.pointer (some ⟨b, 0, none⟩)] w (DiskBack b ow (.tuple #[]) (fallA A) w) := by
  obtain ⟨f, hr, hd⟩ := h
  have c1 := hr.cell 3122 (by omega)
  have c2 := hr.cell 3125 (by omega)
  have z1 := hr.frozen 3122
  have z2 := hr.frozen 3125
  rw [hd.down] at c1
  rw [hd.falls] at c2
  have f0 := hd.falls0
  have HD := hid hd
  have HR := hid hr
  clear hd hr
  cases hdn : A.down with
  | true =>
    rw [hdn] at c1
    have HN := hid hdn
    clear hdn
    go_enter Tryz.func108, Tryz.ntmps108
    go_wp2
    go_end0
    have ht := (Turn.refl (· = b) w).setCell (p := ⟨b, 3122, none⟩) rfl (.bool true)
    refine ⟨rfl, ⟨_, HR.out.set 3122 (.bool true), HD.out.after ht (apart_disk HR.out) (waits_ne HR.out HD.out.waits) (fun i hi => upd_other _ _ (by omega)) rfl rfl (upd_same _ _ _) (by rw [upd_other _ _ (by omega)]; exact HD.out.armed) (by rw [upd_other _ _ (by omega)]; exact HD.out.acts) (by rw [upd_other _ _ (by omega), HD.out.falls]; simp [fallA, HN.out]) HD.out.armed0 HD.out.acts0 (by simp [fallA, HN.out]; exact f0)⟩, ht⟩
  | false =>
    rw [hdn] at c1
    have HN := hid hdn
    clear hdn
    go_enter Tryz.func108, Tryz.ntmps108
    go_wp2
    go_end0
    have ht := ((Turn.refl (· = b) w).setCell (p := ⟨b, 3125, none⟩) rfl (.int .i64 (A.falls + 1))).setCell (p := ⟨b, 3122, none⟩) rfl (.bool true)
    refine ⟨rfl, ⟨_, (HR.out.set 3125 _).set 3122 (.bool true), HD.out.after ht (apart_disk HR.out) (waits_ne HR.out HD.out.waits) (fun i hi => by rw [upd_other _ _ (by omega), upd_other _ _ (by omega)]) rfl rfl (upd_same _ _ _) (by rw [upd_other _ _ (by omega), upd_other _ _ (by omega)]; exact HD.out.armed) (by rw [upd_other _ _ (by omega), upd_other _ _ (by omega)]; exact HD.out.acts) (by rw [upd_other _ _ (by omega), upd_same]; simp [fallA, HN.out]) HD.out.armed0 HD.out.acts0 (by simp [fallA, HN.out]; omega)⟩, ht⟩

/-- Some of the cells 3122 to 3125 are laid anew. -/
theorem DiskAt.laid {w w' : World} {b : Nat} {f f' : Nat → Value} {ow : Option Nat} {A A' : ADisk} (hr : Raw w b 80 3126 f) (hd : DiskIs w f ow A) (hr' : Raw w' b 80 3126 f') (ht : Turn (· = b) w w')
    (h0 : ∀ i, i < 3122 → f' i = f i) (hs : A'.safe = A.safe) (hw : A'.waits = A.waits) (h2 : f' 3122 = .bool A'.down) (ha : f' 3123 = .int .i64 A'.armed) (hc : f' 3124 = .int .i64 A'.acts) (hf : f' 3125 = .int .i64 A'.falls)
    (a0 : 0 ≤ A'.armed ∧ A'.armed ≤ 2 ^ 63 - 1) (c0 : 0 ≤ A'.acts) (f0 : 0 ≤ A'.falls) : DiskAt w' b ow A' :=
  ⟨f', hr', hd.after ht (apart_disk hr) (waits_ne hr hd.waits) h0 hs hw h2 ha hc hf a0 c0 f0⟩

theorem zero_armed : (0 : Int) ≤ 0 ∧ (0 : Int) ≤ 2 ^ 63 - 1 := ⟨by omega, by omega⟩

set_option maxHeartbeats 800000 in
theorem act_any (b : Nat) (ow : Option Nat) (A : ADisk) (w : World) (h : DiskAt w b ow A) (hb : A.falls ≤ 1000000000) (hb2 : A.acts ≤ 1000000000) :
    Calls Tryz.prog 75 #[.pointer (some ⟨b, 0, none⟩)] w (DiskBack b ow (.int .i64 (actE A)) (actA A) w) := by
  have h' := h
  obtain ⟨f, hr, hd⟩ := h
  have c1 := hr.cell 3122 (by omega)
  have c2 := hr.cell 3123 (by omega)
  have c3 := hr.cell 3124 (by omega)
  have z2 := hr.frozen 3123
  have z3 := hr.frozen 3124
  rw [hd.down] at c1
  rw [hd.armed] at c2
  rw [hd.acts] at c3
  obtain ⟨a0, a1⟩ := hd.armed0
  have c0 := hd.acts0
  have HD := hid hd
  have HR := hid hr
  clear hd hr
  cases hdn : A.down with
  | true =>
    rw [hdn] at c1
    have HN := hid hdn
    clear hdn
    go_enter Tryz.func75, Tryz.ntmps75
    go_wp2
    go_ret
    exact ⟨by simp [actE, HN.out], by simp [actA, HN.out]; exact h', Turn.refl _ _⟩
  | false =>
    rw [hdn] at c1
    have HN := hid hdn
    clear hdn
    by_cases e : A.armed = 1
    · have t : (A.armed == 1) = true := by simpa using e
      have E := hid e
      clear e
      have ht := (Turn.refl (· = b) w).setCell (p := ⟨b, 3123, none⟩) rfl (.int .i64 0)
      have hA : DiskAt (w.setCell ⟨b, 3123, none⟩ (.int .i64 0)) b ow { A with armed := 0 } :=
        DiskAt.laid HR.out HD.out (HR.out.set 3123 _) ht (fun i hi => upd_other _ _ (by omega)) rfl rfl (by simp [upd, HD.out.down]) (by simp [upd]) (by simp [upd, HD.out.acts]) (by simp [upd, HD.out.falls]) zero_armed HD.out.acts0 HD.out.falls0
      go_enter Tryz.func75, Tryz.ntmps75
      go_wp2_with fail
      refine (fall_any b ow _ _ hA hb).mono ?_
      rintro e w1 ⟨rfl, hA1, ht1⟩
      go_wp2
      go_ret
      exact ⟨by simp [actE, HN.out, E.out], by simp only [actA, HN.out, E.out]; simpa [fallA, HN.out] using hA1, ht.trans ht1⟩
    · have t : (A.armed == 1) = false := by simpa using e
      have E := hid e
      clear e
      have HF : Hid (∀ m : Int, m = max (A.armed - 1) 0 → DiskBack b ow (.int .i64 (actE A)) (actA A) w (.returned (.int .i64 0)) ((w.setCell ⟨b, 3123, none⟩ (.int .i64 m)).setCell ⟨b, 3124, none⟩ (.int .i64 (A.acts + 1)))) := fun m hm => by
        have ht := ((Turn.refl (· = b) w).setCell (p := ⟨b, 3123, none⟩) rfl (.int .i64 m)).setCell (p := ⟨b, 3124, none⟩) rfl (.int .i64 (A.acts + 1))
        have hA : actA A = { A with armed := m, acts := A.acts + 1 } := by simp [actA, HN.out, E.out, hm]
        refine ⟨by simp [actE, HN.out, E.out], ?_, ht⟩
        rw [hA]
        exact DiskAt.laid HR.out HD.out ((HR.out.set 3123 _).set 3124 _) ht (fun i hi => by rw [upd_other _ _ (by omega), upd_other _ _ (by omega)]) rfl rfl (by simp [upd, HD.out.down]) (by simp [upd]) (by simp [upd]) (by simp [upd, HD.out.falls]) ⟨by show 0 ≤ m; omega, by show m ≤ 2 ^ 63 - 1; omega⟩ (by show 0 ≤ A.acts + 1; omega) HD.out.falls0
      go_enter Tryz.func75, Tryz.ntmps75
      go_wp2
      all_goals go_ret
      all_goals exact HF.out _ (by omega)

set_option maxHeartbeats 800000 in
theorem arm_any (b : Nat) (ow : Option Nat) (A : ADisk) (n : Int) (w : World) (h : DiskAt w b ow A) (hn : n ≤ 2 ^ 63 - 1) :
    Calls Tryz.prog 35 #[.pointer (some ⟨b, 0, none⟩), .int .i64 n] w (DiskBack b ow (.tuple #[]) { A with armed := max n 0 } w) := by
  obtain ⟨f, hr, hd⟩ := h
  have c0 := hr.cell 0 (by omega)
  have c2 := hr.cell 3123 (by omega)
  have z2 := hr.frozen 3123
  rw [hd.made] at c0
  rw [hd.armed] at c2
  have HD := hid hd
  have HR := hid hr
  clear hd hr
  have HF : Hid (∀ m : Int, m = max n 0 → DiskBack b ow (.tuple #[]) { A with armed := max n 0 } w (.returned (.tuple #[])) (w.setCell ⟨b, 3123, none⟩ (.int .i64 m))) := fun m hm => by
    have ht := (Turn.refl (· = b) w).setCell (p := ⟨b, 3123, none⟩) rfl (.int .i64 m)
    refine ⟨rfl, ?_, ht⟩
    rw [← hm]
    exact DiskAt.laid HR.out HD.out (HR.out.set 3123 _) ht (fun i hi => by rw [upd_other _ _ (by omega)]) rfl rfl (by simp [upd, HD.out.down]) (by simp [upd]) (by simp [upd, HD.out.acts]) (by simp [upd, HD.out.falls]) ⟨by show 0 ≤ m; omega, by show m ≤ 2 ^ 63 - 1; omega⟩ HD.out.acts0 HD.out.falls0
  go_enter Tryz.func35, Tryz.ntmps35
  go_wp2_with fail
  refine (none_no b w c0).mono ?_
  rintro e w' ⟨rfl, rfl⟩
  go_wp2
  all_goals go_end0
  all_goals exact HF.out _ (by omega)

theorem waits_slice {w : World} {v : Value} {ow : Option Nat} {l : List (Nat × ByteArray)} (h : Waits w v ow l) : ∃ p c, v = .slice p l.length c ∧ l.length ≤ c := by
  obtain ⟨⟨xs, h1, _⟩, _⟩ := h
  rcases h1.2 with ⟨rfl, e⟩ | ⟨g, cap, cur, rfl, _, _, h, _⟩
  · exact ⟨_, _, by rw [e], by omega⟩
  · exact ⟨_, _, rfl, h⟩

set_option maxHeartbeats 400000 in
theorem down_any (b : Nat) (ow : Option Nat) (A : ADisk) (w : World) (h : DiskAt w b ow A) :
    Calls Tryz.prog 49 #[.pointer (some ⟨b, 0, none⟩)] w fun e w' => e = .returned (.bool A.down) ∧ w = w' := by
  obtain ⟨f, hr, hd⟩ := h
  have c0 := hr.cell 0 (by omega)
  have c1 := hr.cell 3122 (by omega)
  rw [hd.made] at c0
  rw [hd.down] at c1
  clear hd hr
  go_enter Tryz.func49, Tryz.ntmps49
  go_wp2_with fail
  refine (none_no b w c0).mono ?_
  rintro e w' ⟨rfl, rfl⟩
  go_wp2
  go_ret
  exact ⟨rfl, rfl⟩

set_option maxHeartbeats 400000 in
theorem acts_any (b : Nat) (ow : Option Nat) (A : ADisk) (w : World) (h : DiskAt w b ow A) :
    Calls Tryz.prog 55 #[.pointer (some ⟨b, 0, none⟩)] w fun e w' => e = .returned (.int .i64 A.acts) ∧ w = w' := by
  obtain ⟨f, hr, hd⟩ := h
  have c0 := hr.cell 0 (by omega)
  have c1 := hr.cell 3124 (by omega)
  rw [hd.made] at c0
  rw [hd.acts] at c1
  clear hd hr
  go_enter Tryz.func55, Tryz.ntmps55
  go_wp2_with fail
  refine (none_no b w c0).mono ?_
  rintro e w' ⟨rfl, rfl⟩
  go_wp2
  go_ret
  exact ⟨rfl, rfl⟩

end Go.Proofs.YtdccbceaajnajaaGreat

namespace Go.Proofs.YtdccbceaajnajaaGreat
open Go.RowKit
set_option linter.unusedSimpArgs false
set_option linter.unusedVariables false

/-- New bytes come back, in a block of bytes of their own. -/
def ContentBack (s : ByteArray) (w : World) (e : Ending) (w' : World) : Prop := ∃ p c, e = .returned (.slice p s.size c) ∧ Content w' (.slice p s.size c) s ∧ New w w'

theorem bytes_u8s (s : ByteArray) : byteVals s = u8s s.data.toList := rfl
theorem bytesOf_data (s : ByteArray) : bytesOf s.data.toList = s := by simp [bytesOf]
theorem own_content {w : World} {base : Nat} {v : Value} {n : Nat} {xs : List Value} {s : ByteArray} (h : w.ownsRow base 5 1 v n xs) (hn : s.size = n) (hx : byteVals s = xs) : Content w v s := by
  refine ⟨own_bytes h hn hx, fun k hk => ?_⟩
  rcases h.2 with ⟨rfl, _⟩ | ⟨g, cap, cur, rfl, _, hg, _⟩
  · simp [Value.ownBlock] at hk
  · simp only [Value.ownBlock, Option.some.injEq] at hk
    subst hk
    exact ⟨_, _, hg⟩

set_option maxRecDepth 10000 in
/-- append(row, s...): also where s has no element. -/
theorem app_any {ops : Array Oper} {rest : List Oper} {o : Oper} {a : Act} {w : World} {Q : Exit → Act → World → Prop} (hgd : o.guard = none) (sl x : Operand)
    (ho : o.op = .call { callee := .builtin .append, args := #[sl, x], argTypes := #[29, 29] }) (base : Nat)
    (v : Value) (n : Nat) (xs : List Value) (hs : a.eval sl = v) (hown : w.ownsRow base 5 1 v n xs) (q : Addr) (c : Nat) (s : ByteArray) (hx : a.eval x = .slice (some q) s.size c) (hu : Bytes w (.slice (some q) s.size c) s)
    (hb : n + s.size ≤ 140737488355328) (hbase : base ≤ w.heap.size)
    (h : ∀ v' w', w'.ownsRow base 5 1 v' (n + s.size) (xs ++ byteVals s) → w.grownBy w' v.ownBlock → (v'.ownBlock = v.ownBlock ∨ v'.ownBlock = some w.heap.size) → wpList Tryz.prog ops Q rest (a.put o.dst v') w') : wpList Tryz.prog ops Q (o :: rest) a w := by
  obtain ⟨i0, hi, hz0, hz1, hz2⟩ := info_parts info5
  obtain ⟨p, c', e, h1, h2, h3⟩ := hu
  have hl := byteVals_length s
  refine wpList_append_own_at w hgd sl x 29 ho base 5 i0 _ 1 1 Tryz.underlying29 hi hz0 hz1 hz2 rfl (by decide) v n xs hs hown q s.size c (byteVals s) hx (by rw [hl]; omega) (fun j u hj => ?_) (by rw [bytes_u8s]; exact u8s_one _) (by unfold maxLen; omega) (by omega) hbase fun v' w' h1 h2 _ h4 => h v' w' h1 h2 h4
  have hjl : j < s.size := by
    have := (List.getElem?_eq_some_iff.1 hj).1
    rwa [hl] at this
  obtain ⟨b, off, rfl, hb', hc⟩ := h3 (by omega)
  injection e with e _ _
  injection e with e
  subst e
  have e : (⟨b, off, none⟩ : Addr).add j = ⟨b, off + j, none⟩ := by unfold Addr.add; split <;> simp_all
  rw [e, hc j (by rw [hl]; exact hjl)]
  simp [List.getD_eq_getElem?_getD, hj]

set_option maxHeartbeats 800000 in
theorem cloneBytes_any (v : Value) (s : ByteArray) (w : World) (h : Bytes w v s) (hs : s.size ≤ 140737488351232) : Calls Tryz.prog 39 #[v] w (ContentBack s w) := by
  have h' := h
  obtain ⟨p, c, rfl, h1, h2, h3⟩ := h
  cases p with
  | none =>
    have hz : s.size = 0 := by
      rcases Nat.eq_zero_or_pos s.size with h | h
      · exact h
      · obtain ⟨b, o, e, _⟩ := h3 h
        cases e
    have he : s = ByteArray.empty := ByteArray.ext (Array.eq_empty_of_size_eq_zero hz)
    have hq := fun (w : World) => Lib.run_eql_slice_nil (P := Tryz.prog) w 29 5 none s.size c 0 0 Tryz.underlying29
    have HZ := hid hz
    have HE := hid he
    clear hz he hs h3 h'
    go_enter Tryz.func39, Tryz.ntmps39
    go_wp2
    go_ret
    refine ⟨none, 0, ?_, ?_, New.refl w⟩
    · rw [HZ.out]; rfl
    · rw [HZ.out, HE.out]; exact Content.nil w
  | some q =>
    have hq := fun (w : World) => Lib.run_eql_slice_nil (P := Tryz.prog) w 29 5 (some q) s.size c 0 0 Tryz.underlying29
    have hb := (h' : Bytes w _ s)
    have hb1 : Bytes (w.alloc (.cells #[] 5)) (.slice (some q) s.size c) s := RowAt.new h' ((New.refl w).alloc _ _)
    have HB := hid hb1
    clear hb1 h3 hb h'
    go_enter Tryz.func39, Tryz.ntmps39
    go_wp2_with (at_builtin; refine app_any rfl _ _ rfl w.heap.size _ 0 [] rfl (World.ownsRow_lit w #[] 0 (Nat.le_refl _) (by decide) rfl) q c s rfl HB.out ?c1 ?c2 ?_)
    case c1 => omega
    case c2 => simp
    intro v' w' hown hg hblk
    obtain ⟨A, k, rfl⟩ : ∃ A k, v' = .slice A s.size k := by
      rcases hown.2 with ⟨rfl, e⟩ | ⟨g, cap, cur, rfl, _⟩
      · exact ⟨_, _, by rw [e]⟩
      · exact ⟨_, _, rfl⟩
    go_wp2
    go_ret
    exact ⟨A, k, rfl, own_content hown rfl rfl, ((New.refl w).alloc _ _).grown hg (by simp) (by simp [Value.ownBlock])⟩

end Go.Proofs.YtdccbceaajnajaaGreat
