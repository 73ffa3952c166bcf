/- disk.Disk.there and disk.Disk.Read at each made disk. disk.New. disk.Disk.Crash at each made disk. A disk of one's own (Mine), and the law's Awake. Disks that are up and not armed (Calm); the blocks of a disk. -/
import Derived.Test.YtdccbceaajnajaaGreatD7
import Derived.Laws.Tables
import Derived.Test.YtdccbceaajnajaaGreatT1
import Derived.Deep.RegionHeld3
namespace Go.Proofs.YtdccbceaajnajaaGreat
open Go.RowKit
set_option linter.unusedSimpArgs false
set_option linter.unusedVariables false

theorem layAll_snoc (l : List (Nat × ByteArray)) (p : Nat × ByteArray) (s : Nat → ByteArray) (m : Nat) : layAll (l ++ [p]) s m = if m = p.1 then p.2 else layAll l s m := by
  simp [layAll, List.foldl_append, lay1]
theorem snocInd {α : Type} {P : List α → Prop} (h0 : P []) (h1 : ∀ l p, P l → P (l ++ [p])) (l : List α) : P l := by
  have : ∀ r : List α, P r.reverse := fun r => by
    induction r with
    | nil => exact h0
    | cons a r ih => rw [List.reverse_cons]; exact h1 _ _ ih
  simpa using this l.reverse
theorem layAll_none (s : Nat → ByteArray) (m : Nat) (l : List (Nat × ByteArray)) (h : ∀ p ∈ l, p.1 ≠ m) : layAll l s m = s m := by
  revert h
  refine snocInd (P := fun l => (∀ p ∈ l, p.1 ≠ m) → layAll l s m = s m) (fun _ => rfl) (fun l p ih h => ?_) l
  rw [layAll_snoc, if_neg (fun e => h p (by simp) e.symm)]
  exact ih fun q hq => h q (by simp [hq])
theorem layAll_last (s : Nat → ByteArray) (m : Nat) (l : List (Nat × ByteArray)) : ∀ j (hj : j < l.length), l[j].1 = m → (∀ i, j < i → (hi : i < l.length) → l[i].1 ≠ m) → layAll l s m = l[j].2 := by
  refine snocInd (P := fun l => ∀ j (hj : j < l.length), l[j].1 = m → (∀ i, j < i → (hi : i < l.length) → l[i].1 ≠ m) → layAll l s m = l[j].2) ?_ (fun l p ih => ?_) l
  · intro j hj; simp at hj
  · intro j hj he hl
    rw [layAll_snoc]
    by_cases e : j = l.length
    · subst e
      simp at he ⊢
      intro h; exact absurd he.symm h
    · have hj' : j < l.length := by simp at hj; omega
      have h2 := hl l.length hj' (by simp)
      simp at h2
      rw [if_neg (fun e => h2 e.symm)]
      rw [List.getElem_append_left hj'] at he ⊢
      exact ih j hj' he fun i hi hil => by
        have := hl i hi (by simp; omega)
        rwa [List.getElem_append_left hil] at this

def cellsOf (l : List (Nat × ByteArray)) (xs : List Value) : Cells where
  num j := ((l[j]?.map (·.1)).getD 0 : Nat)
  ptr j := match xs[j * 2 + 1]? with | some (.slice p _ _) => p | _ => none
  siz j := match xs[j * 2 + 1]? with | some (.slice _ n _) => n | _ => 0
  cap j := match xs[j * 2 + 1]? with | some (.slice _ _ c) => c | _ => 0
theorem cellsOf_at {w : World} {l : List (Nat × ByteArray)} {xs : List Value} (h : WaitCells w l xs) {j : Nat} (hj : j < l.length) :
    (cellsOf l xs).num j = (l[j].1 : Int) ∧ xs[j * 2]? = some (.int .i64 ((cellsOf l xs).num j)) ∧ xs[j * 2 + 1]? = some ((cellsOf l xs).bytes j) ∧ Content w ((cellsOf l xs).bytes j) l[j].2 := by
  obtain ⟨e1, u, e2, e3⟩ := h.2 j hj
  have hn : (cellsOf l xs).num j = (l[j].1 : Int) := by simp [cellsOf, hj]
  have hu := e3
  obtain ⟨⟨p, c, rfl, _⟩, _⟩ := hu
  have hb : (cellsOf l xs).bytes j = .slice p l[j].2.size c := by simp [Cells.bytes, cellsOf, e2]
  exact ⟨hn, by rw [hn]; exact e1, by rw [hb]; exact e2, by rw [hb]; exact e3⟩

theorem there_any (b : Nat) (ow : Option Nat) (A : ADisk) (m : Nat) (w : World) (h : DiskAt w b ow A) (hm : m < 3120) (hb3 : A.waits.length ≤ 1000000000) :
    Calls Tryz.prog 40 #[.pointer (some ⟨b, 0, none⟩), .int .i64 m] w fun e w' => ∃ v, e = .returned v ∧ Content w' v (layAll A.waits A.safe m) ∧ New w w' := by
  obtain ⟨f, hr, hi⟩ := h
  obtain ⟨xs, hx, hc⟩ := hi.waits.cells
  have c1 := hr.cell 3121 (by omega)
  have c2 := hr.cell (1 + m) (by omega)
  have hu := hi.safe m hm
  obtain ⟨q, k, ew, _⟩ := waits_slice hi.waits
  obtain ⟨g, hq, hg, hcs⟩ : ∃ g, (0 < A.waits.length → q = some ⟨g, 0, none⟩) ∧ g < w.heap.size ∧ ∀ j, j < A.waits.length → w.cell? ⟨g, j * 2, none⟩ = xs[j * 2]? ∧ w.cell? ⟨g, j * 2 + 1, none⟩ = xs[j * 2 + 1]? := by
    rcases Nat.eq_zero_or_pos A.waits.length with h0 | h0
    · exact ⟨b, fun h => by omega, hr.lt, fun j hj => by omega⟩
    · obtain ⟨g, cap, e, _, hg⟩ := hx.form h0
      rw [e] at ew hx
      injection ew with e1 _ e2
      exact ⟨g, fun _ => e1.symm, hg, fun j hj => ⟨hx.cellAt _ (by omega), hx.cellAt _ (by omega)⟩⟩
  rw [ew] at c1
  refine (callsIn_wide (n := 6)).1 ?_
  refine (there_in 6 (Nat.le_refl _) b m g _ k q (f (1 + m)) (cellsOf A.waits xs) w hm hb3 hq hg hr.lt (by obtain ⟨⟨p, c, e, _⟩, _⟩ := hu; exact ⟨_, _, _, e⟩) c1 c2 (fun j hj => ?_)).mono ?_
  · obtain ⟨_, e1, e2, _⟩ := cellsOf_at hc hj
    obtain ⟨d1, d2⟩ := hcs j hj
    exact ⟨d1.trans e1, d2.trans e2⟩
  · rintro e w' ⟨⟨hn, rfl⟩ | ⟨j, hj, hjm, hl, rfl⟩, hnew⟩
    · refine ⟨_, rfl, ?_, hnew⟩
      rw [layAll_none]
      · exact hu.new hnew
      · intro p hp e
        obtain ⟨i, hi', rfl⟩ := List.mem_iff_getElem.1 hp
        exact hn i hi' (by rw [(cellsOf_at hc hi').1, e])
    · refine ⟨_, rfl, ?_, hnew⟩
      rw [layAll_last _ _ _ j hj (by have := (cellsOf_at hc hj).1; omega) (fun i hi1 hi2 e => hl i hi1 hi2 (by rw [(cellsOf_at hc hi2).1, e]))]
      exact (cellsOf_at hc hj).2.2.2.new hnew

def readE (A : ADisk) (n : Int) : Int := if !isB n then 2 else if A.down then 7 else 0
def readB (A : ADisk) (n : Int) : ByteArray := if readE A n = 0 then layAll A.waits A.safe n.toNat else ByteArray.empty

/-- Each block's bytes are few. -/
def Small (A : ADisk) : Prop := (∀ i, i < 3120 → (A.safe i).size ≤ 340) ∧ ∀ p ∈ A.waits, p.2.size ≤ 340
theorem Small.lay {A : ADisk} (h : Small A) (m : Nat) (hm : m < 3120) : (layAll A.waits A.safe m).size ≤ 340 := by
  obtain ⟨h1, h2⟩ := h
  revert h2
  refine snocInd (P := fun l => (∀ p ∈ l, p.2.size ≤ 340) → (layAll l A.safe m).size ≤ 340) (fun _ => h1 m hm) (fun l p ih h2 => ?_) A.waits
  rw [layAll_snoc]
  split
  · exact h2 p (by simp)
  · exact ih fun q hq => h2 q (by simp [hq])

set_option maxHeartbeats 1000000 in
theorem read_any (b : Nat) (ow : Option Nat) (A : ADisk) (n : Int) (w : World) (h : DiskAt w b ow A) (hs : Small A) (hb3 : A.waits.length ≤ 1000000000) :
    Calls Tryz.prog 11 #[.pointer (some ⟨b, 0, none⟩), .int .i64 n] w fun e w' => ∃ v, e = .returned (.tuple #[v, .int .i64 (readE A n)]) ∧ Content w' v (readB A n) ∧ New w w' := by
  have hd0 := hid h
  obtain ⟨f, hr, hd⟩ := h
  have c0 := hr.cell 0 (by omega)
  rw [hd.made] at c0
  have c3 := hr.cell 3122 (by omega)
  rw [hd.down] at c3
  clear hr hd
  cases hB : isB n with
  | false =>
    go_enter Tryz.func11, Tryz.ntmps11
    go_wp2_with fail
    refine (none_no b w c0).mono ?_
    rintro e w' ⟨rfl, rfl⟩
    go_wp2_with fail
    refine (isBlock_any _ _).mono ?_
    rintro e w' ⟨rfl, rfl⟩
    rw [hB]
    go_wp2
    go_ret2
    exact ⟨.slice none 0 0, by simp [readE, hB], by simp [readB, readE, hB]; exact Content.nil w, New.refl w⟩
  | true =>
    cases hdn : A.down with
    | true =>
      rw [hdn] at c3
      go_enter Tryz.func11, Tryz.ntmps11
      go_wp2_with fail
      refine (none_no b w c0).mono ?_
      rintro e w' ⟨rfl, rfl⟩
      go_wp2_with fail
      refine (isBlock_any _ _).mono ?_
      rintro e w' ⟨rfl, rfl⟩
      rw [hB]
      go_wp2
      go_ret2
      exact ⟨.slice none 0 0, by simp [readE, hB, hdn], by simp [readB, readE, hB, hdn]; exact Content.nil w, New.refl w⟩
    | false =>
      rw [hdn] at c3
      obtain ⟨m, rfl⟩ : ∃ m : Nat, n = (m : Int) := ⟨n.toNat, by unfold isB at hB; simp at hB; omega⟩
      have hm : m < 3120 := by unfold isB at hB; simp at hB; omega
      have HM := hid hm
      have HB := hid hb3
      have HS := hid (hs.lay m hm)
      clear hm hb3
      go_enter Tryz.func11, Tryz.ntmps11
      go_wp2_with fail
      refine (none_no b w c0).mono ?_
      rintro e w' ⟨rfl, rfl⟩
      go_wp2_with fail
      refine (isBlock_any _ _).mono ?_
      rintro e w' ⟨rfl, rfl⟩
      rw [hB]
      go_wp2_with fail
      refine (there_any b ow A m _ hd0.out HM.out HB.out).mono ?_
      rintro e w1 ⟨v, rfl, hv, hn1⟩
      go_wp2_with fail
      refine (cloneBytes_any v _ _ hv.1 (by have := HS.out; omega)).mono ?_
      rintro e w2 ⟨p, k, rfl, hu, hn2⟩
      go_wp2
      go_ret2
      refine ⟨.slice p (layAll A.waits A.safe m).size k, by simp [readE, hB, hdn], ?_, hn1.trans hn2⟩
      have : readB A (m : Int) = layAll A.waits A.safe m := by simp [readB, readE, hB, hdn]
      rw [this]
      exact hu

end Go.Proofs.YtdccbceaajnajaaGreat

namespace Go.Proofs.YtdccbceaajnajaaGreat
open Go.RowKit
set_option linter.unusedSimpArgs false
set_option linter.unusedVariables false

def newCells : Array Value := (Value.bool true :: (List.replicate 3121 (Value.slice none 0 0) ++ [.bool false, .int .i64 0, .int .i64 0, .int .i64 0])).toArray
theorem newCells_eq : Tryz.zeroCells80.setIfInBounds 0 (.bool true) = newCells := by kernel_rfl
theorem newCells_size : newCells.size = 3126 := by
  unfold newCells
  rw [List.size_toArray, List.length_cons, List.length_append, List.length_replicate]
  rfl

def newA : ADisk := { safe := fun _ => ByteArray.empty, waits := [], down := false, armed := 0, acts := 0, falls := 0 }
def newF (i : Nat) : Value := newCells[i]?.getD undef
theorem newF_slices (i : Nat) (h1 : 1 ≤ i) (h2 : i ≤ 3121) : newF i = .slice none 0 0 := by
  obtain ⟨k, rfl⟩ : ∃ k, i = k + 1 := ⟨i - 1, by omega⟩
  unfold newF newCells
  rw [List.getElem?_toArray, List.getElem?_cons_succ, List.getElem?_append_left (by rw [List.length_replicate]; omega), List.getElem?_replicate, if_pos (by omega)]
  rfl
theorem newF_tail (k : Nat) : newF (3122 + k) = ([.bool false, .int .i64 0, .int .i64 0, .int .i64 0] : List Value)[k]?.getD undef := by
  unfold newF newCells
  rw [List.getElem?_toArray, show 3122 + k = (3121 + k) + 1 by omega, List.getElem?_cons_succ, List.getElem?_append_right (by rw [List.length_replicate]; omega), List.length_replicate, show 3121 + k - 3121 = k by omega]

theorem newAt (w : World) : DiskAt (w.alloc (.cells newCells 80)) w.heap.size none newA := by
  refine ⟨newF, ⟨newCells, World.alloc_heap_new w _, newCells_size, fun i hi => ?_⟩, ?_⟩
  · unfold newF
    rw [Array.getElem?_eq_getElem (by rw [newCells_size]; exact hi)]
    rfl
  · constructor
    case made => unfold newF newCells; rw [List.getElem?_toArray, List.getElem?_cons_zero]; rfl
    case safe => exact fun i hi => by rw [newF_slices _ (by omega) (by omega)]; exact Content.nil _
    case waits => rw [newF_slices 3121 (by omega) (by omega)]; exact ⟨⟨[], ⟨rfl, .inl ⟨rfl, rfl⟩⟩, fun i h => absurd h (Nat.not_lt_zero _)⟩, rfl⟩
    case down => exact newF_tail 0
    case armed => exact newF_tail 1
    case acts => exact newF_tail 2
    case falls => exact newF_tail 3
    case inside => intro p hp; cases hp
    case armed0 => exact zero_armed
    case acts0 => exact Int.le_refl _
    case falls0 => exact Int.le_refl _
theorem newA_small : Small newA := ⟨fun i _ => Nat.zero_le _, fun p hp => by cases hp⟩

set_option maxHeartbeats 1000000 in
theorem new_any (w : World) : Calls Tryz.prog 22 #[] w fun e w' => e = .returned (.pointer (some ⟨w.heap.size, 0, none⟩)) ∧ w' = w.alloc (.cells newCells 80) := by
  obtain ⟨C, hC⟩ : ∃ C, newCells = C := ⟨_, rfl⟩
  have he := newCells_eq
  rw [hC] at he ⊢
  clear hC
  have HE := hid he
  clear he
  go_enter Tryz.func22, Tryz.ntmps22
  go_wp2
  go_ret
  rw [HE.out]
  exact ⟨rfl, rfl⟩

end Go.Proofs.YtdccbceaajnajaaGreat

namespace Go.Proofs.YtdccbceaajnajaaGreat
open Go.RowKit
set_option linter.unusedSimpArgs false
set_option linter.unusedVariables false

/-- What the loss of power makes of the first i waiting writes. -/
def crashTo (l : List (Nat × ByteArray)) (keep : List Bool) (k : Nat) (s : Nat → ByteArray) : Nat → (Nat → ByteArray)
  | 0 => s
  | i + 1 => match l[i]? with
    | none => crashTo l keep k s i
    | some p => if keep.getD i false then (if i + 1 = l.length then lay1 (crashTo l keep k s i) (p.1, tornB (crashTo l keep k s i p.1) p.2 k) else lay1 (crashTo l keep k s i) p) else crashTo l keep k s i
def crashA (A : ADisk) (keep : List Bool) (k : Int) : ADisk := fallA { A with waits := [], safe := crashTo A.waits keep (max k 0).toNat A.safe A.waits.length }

theorem crashTo_skip {l : List (Nat × ByteArray)} {keep : List Bool} {k : Nat} {s : Nat → ByteArray} {i : Nat} (h : keep.getD i false = false) : crashTo l keep k s (i + 1) = crashTo l keep k s i := by
  rw [crashTo]
  cases l[i]? with
  | none => rfl
  | some p => exact if_neg (by rw [h]; decide)
theorem crashTo_keep {l : List (Nat × ByteArray)} {keep : List Bool} {k : Nat} {s : Nat → ByteArray} {i : Nat} (hi : i < l.length) (h : keep.getD i false = true) (hl : i + 1 ≠ l.length) : crashTo l keep k s (i + 1) = lay1 (crashTo l keep k s i) l[i] := by
  rw [crashTo, List.getElem?_eq_getElem hi]
  exact (if_pos h).trans (if_neg hl)
theorem crashTo_last {l : List (Nat × ByteArray)} {keep : List Bool} {k : Nat} {s : Nat → ByteArray} {i : Nat} (hi : i < l.length) (h : keep.getD i false = true) (hl : i + 1 = l.length) :
    crashTo l keep k s (i + 1) = lay1 (crashTo l keep k s i) (l[i].1, tornB (crashTo l keep k s i l[i].1) l[i].2 k) := by
  rw [crashTo, List.getElem?_eq_getElem hi]
  exact (if_pos h).trans (if_pos hl)
theorem tornB_size (a b : ByteArray) (n : Nat) : (tornB a b n).size ≤ max a.size b.size := by
  unfold tornB
  split
  · omega
  · simp
    omega
theorem crashTo_small {l : List (Nat × ByteArray)} {keep : List Bool} {k : Nat} {s : Nat → ByteArray} (h1 : ∀ i, i < 3120 → (s i).size ≤ 340) (h2 : ∀ p ∈ l, p.2.size ≤ 340) (h3 : ∀ p ∈ l, p.1 < 3120) (i : Nat) : ∀ j, j < 3120 → (crashTo l keep k s i j).size ≤ 340 := by
  induction i with
  | zero => exact h1
  | succ i ih =>
    intro j hj
    rw [crashTo]
    cases e : l[i]? with
    | none => exact ih j hj
    | some p =>
      have hp : p ∈ l := List.mem_of_getElem? e
      simp only
      split
      · split
        · simp only [lay1]
          split
          · have := tornB_size (crashTo l keep k s i p.1) p.2 k
            have := ih p.1 (h3 p hp)
            have := h2 p hp
            omega
          · exact ih j hj
        · simp only [lay1]
          split
          · exact h2 p hp
          · exact ih j hj
      · exact ih j hj

/-- A list of booleans. -/
def Bools (w : World) (v : Value) (l : List Bool) : Prop := RowAt w v l.length (l.map Value.bool)
theorem Bools.at {w : World} {b o : Nat} {l : List Bool} (hc : ∀ i, i < (l.map Value.bool).length → w.cell? ⟨b, o + i, none⟩ = some ((l.map Value.bool).getD i undef)) {i : Nat} (hi : i < l.length) : w.cell? ⟨b, o + i, none⟩ = some (.bool l[i]) := by
  rw [hc i (by simpa using hi)]
  simp [hi]

theorem other_cell (w : World) (a : Addr) (u : Value) (c : Addr) (h : a.block ≠ c.block) : (w.setCell a u).cell? c = w.cell? c := World.cell?_of_block (w := w) (Below.heap_setCell _ _ _ _ (Ne.symm h))
end Go.Proofs.YtdccbceaajnajaaGreat

namespace Go.Proofs.YtdccbceaajnajaaGreat
open Go.RowKit
set_option linter.unusedSimpArgs false
set_option linter.unusedVariables false

/-- A disk that was made since w. -/
structure Mine (w a : World) (b : Nat) (ow : Option Nat) (A : ADisk) : Prop where
  disk : DiskAt a b ow A
  new : New w a
  bb : w.heap.size ≤ b
  oo : ∀ k, ow = some k → w.heap.size ≤ k
theorem New.turn {S : Nat → Prop} {w a a' : World} (h : New w a) (ht : Turn S a a') (hS : ∀ k, k < w.heap.size → ¬ S k) : New w a' :=
  ⟨ht.os.trans h.os, ht.tape.trans h.tape, ht.output.trans h.output, Nat.le_trans h.size ht.size, fun k hk => (ht.block k (Nat.lt_of_lt_of_le hk h.size) (hS k hk)).trans (h.block k hk)⟩
theorem Mine.newer {w a a' : World} {b : Nat} {ow : Option Nat} {A : ADisk} (h : Mine w a b ow A) (hn : New a a') : Mine w a' b ow A := ⟨h.disk.new hn, h.new.trans hn, h.bb, h.oo⟩
theorem Mine.moved {w a a' : World} {b : Nat} {ow : Option Nat} {A A' : ADisk} {v : Value} {e : Ending} (h : Mine w a b ow A) (hm : DiskMoved b ow v A' a e a') : ∃ ow', e = .returned v ∧ Mine w a' b ow' A' := by
  obtain ⟨he, ow', h1, h2, h3⟩ := hm
  refine ⟨ow', he, h1, h.new.turn h3 (fun k hk hs => ?_), h.bb, fun k hk => ?_⟩
  · rcases hs with rfl | hs
    · have := h.bb; omega
    · have := h.oo k hs; omega
  · rcases h2 k hk with h4 | h4
    · exact h.oo k h4
    · have := h.new.size; omega
theorem Mine.back {w a a' : World} {b : Nat} {ow : Option Nat} {A A' : ADisk} {v : Value} {e : Ending} (h : Mine w a b ow A) (hm : DiskBack b ow v A' a e a') : e = .returned v ∧ Mine w a' b ow A' := by
  obtain ⟨he, h1, h3⟩ := hm
  exact ⟨he, h1, h.new.turn h3 (fun k hk hs => by have := h.bb; omega), h.bb, h.oo⟩
theorem Mine.made (w a : World) (h : New w a) : Mine w (a.alloc (.cells newCells 80)) a.heap.size none newA := ⟨newAt a, h.alloc _ _, h.size, fun k hk => by cases hk⟩

/-- Bytes that were just laid. -/
theorem Content.made (w : World) (s : ByteArray) (n : Nat) (xs : List Value) (hn : s.size = n) (hm : n ≤ maxLen) (hx : byteVals s = xs) : Content (w.alloc (.cells xs.toArray 5)) (.slice (some ⟨w.heap.size, 0, none⟩) n n) s :=
  ⟨Bytes.made w s n xs hn hm hx, fun k hk => by simp only [Value.ownBlock, Option.some.injEq] at hk; subst hk; exact ⟨_, _, World.alloc_heap_new w _⟩⟩

def abc : ByteArray := ⟨#[97, 98, 99]⟩
def xy : ByteArray := ⟨#[120, 121]⟩
def wake1 : ADisk := writeA newA 5 abc
def wake2 : ADisk := flushA wake1
def wake3 : ADisk := writeA wake2 5 xy
def wake4 : ADisk := crashA wake3 [true] 1
def wake5 : ADisk := { wake4 with down := false, armed := 0 }
theorem wake_facts : writeE newA 5 abc = 0 ∧ actE wake1 = 0 ∧ writeE wake2 5 xy = 0 ∧ readE wake5 5 = 0 ∧ readB wake5 5 = ⟨#[120, 98, 99]⟩ ∧ wake1.waits.length = 1 ∧ wake3.waits.length = 1 ∧ wake5.waits.length = 0 ∧ wake1.falls = 0 ∧ wake1.acts = 1 ∧ wake2.falls = 0 ∧ wake2.acts = 2 ∧ wake2.waits.length = 0 ∧ wake3.falls = 0 := by
  refine ⟨?_, ?_, ?_, ?_, ?_, ?_, ?_, ?_, ?_, ?_, ?_, ?_, ?_, ?_⟩ <;> decide
theorem wake3_small : Small wake3 := by
  constructor
  · intro i hi
    show (layAll [(5, abc)] (fun _ => ByteArray.empty) i).size ≤ 340
    simp only [layAll, List.foldl, lay1]
    split <;> decide
  · intro p hp
    have : p = (5, xy) := by simpa using (show p ∈ [(5, xy)] from hp)
    subst this
    decide
theorem wake5_small : Small wake5 := by
  have h := wake3_small
  constructor
  · intro i hi
    exact crashTo_small (l := wake3.waits) (keep := [true]) (k := 1) (s := wake3.safe) h.1 h.2 (fun p hp => by
      have : p = (5, xy) := by simpa using (show p ∈ [(5, xy)] from hp)
      subst this; decide) 1 i hi
  · intro p hp; cases hp

end Go.Proofs.YtdccbceaajnajaaGreat

namespace Go.Proofs.YtdccbceaajnajaaGreat
open Go.RowKit
set_option linter.unusedSimpArgs false
set_option linter.unusedVariables false

/-- A disk that is up, not armed, never fell, with at most n acts and n waiting writes. -/
structure Calm (A : ADisk) (n : Nat) : Prop where
  down : A.down = false
  armed : A.armed = 0
  falls : A.falls = 0
  acts : A.acts ≤ n
  waits : A.waits.length ≤ n
  small : Small A
  inside : ∀ p ∈ A.waits, p.1 < 3120
theorem Calm.mono {A : ADisk} {n m : Nat} (h : Calm A n) (hm : n ≤ m) : Calm A m := { h with acts := by have := h.acts; omega, waits := by have := h.waits; omega }
theorem calm_new : Calm newA 0 := ⟨rfl, rfl, rfl, by decide, by decide, newA_small, fun p hp => by cases hp⟩
theorem Calm.act {A : ADisk} {n : Nat} (h : Calm A n) : actE A = 0 := by simp [actE, h.down, h.armed]
theorem Calm.acted {A : ADisk} {n : Nat} (h : Calm A n) : actA A = { A with acts := A.acts + 1 } := by
  have := h.armed
  simp [actA, h.down, h.armed, show max (-1 : Int) 0 = 0 by decide]
theorem Calm.wrote {A : ADisk} {n : Nat} (h : Calm A n) (m : Int) (s : ByteArray) : writeE A m s = if isB m && decide (s.size ≤ 340) then 0 else 2 := by
  simp only [_root_.Go.Proofs.YtdccbceaajnajaaGreat.writeE, h.act]
  by_cases h1 : isB m = true <;> by_cases h2 : s.size ≤ 340 <;> simp [h1, h2] <;> omega
theorem writeE_ok {A : ADisk} {n : Nat} (h : Calm A n) {m : Int} {s : ByteArray} (hw : writeE A m s = 0) : isB m = true ∧ s.size ≤ 340 := by
  rw [h.wrote] at hw
  split at hw
  · simp_all
  · cases hw
theorem writeE_no {A : ADisk} {n : Nat} (h : Calm A n) {m : Int} {s : ByteArray} (hw : writeE A m s ≠ 0) : writeA A m s = A := by
  rw [h.wrote] at hw
  simp only [writeA]
  by_cases h1 : isB m = true <;> by_cases h2 : s.size ≤ 340 <;> simp_all
theorem writeA_ok {A : ADisk} {n : Nat} (h : Calm A n) {m : Int} {s : ByteArray} (hm : isB m = true) (hs : s.size ≤ 340) : writeA A m s = { A with acts := A.acts + 1, waits := A.waits ++ [(m.toNat, s)] } := by
  rw [writeA_yes hm hs h.act, h.acted]
theorem isB_lt {m : Int} (h : isB m = true) : m.toNat < 3120 := by unfold isB at h; simp at h; omega
theorem Calm.write {A : ADisk} {n : Nat} (h : Calm A n) {m : Int} {s : ByteArray} (hw : writeE A m s = 0) : Calm (writeA A m s) (n + 1) := by
  obtain ⟨hm, hs⟩ := writeE_ok h hw
  rw [writeA_ok h hm hs]
  refine ⟨h.down, h.armed, h.falls, ?_, ?_, ⟨h.small.1, ?_⟩, ?_⟩
  · have := h.acts; simp only; omega
  · have := h.waits; simp only [List.length_append, List.length_cons, List.length_nil]; omega
  · intro p hp
    rcases List.mem_append.1 hp with h1 | h1
    · exact h.small.2 p h1
    · simp at h1; subst h1; exact hs
  · intro p hp
    rcases List.mem_append.1 hp with h1 | h1
    · exact h.inside p h1
    · simp at h1; subst h1; exact isB_lt hm
theorem Calm.flush {A : ADisk} {n : Nat} (h : Calm A n) : Calm (flushA A) (n + 1) := by
  have e : flushA A = { A with acts := A.acts + 1, waits := [], safe := layAll A.waits A.safe } := by
    simp only [flushA, h.act, h.acted, if_true]
  rw [e]
  refine ⟨h.down, h.armed, h.falls, ?_, Nat.zero_le _, ⟨fun i hi => h.small.lay i hi, fun p hp => by cases hp⟩, fun p hp => by cases hp⟩
  have := h.acts; simp only; omega

/-! Two disks side by side. -/
theorem DiskAt.base {w : World} {b : Nat} {ow : Option Nat} {A : ADisk} (h : DiskAt w b ow A) : ∃ c, w.heap[b]? = some (.cells c 80 (0, 0)) := by
  obtain ⟨f, ⟨cs, h1, _⟩, _⟩ := h
  exact ⟨cs, h1⟩
theorem DiskAt.row {w : World} {b : Nat} {ow : Option Nat} {A : ADisk} (h : DiskAt w b ow A) {k : Nat} (hk : ow = some k) : ∃ c, w.heap[k]? = some (.cells c 111 (0, 0)) := by
  obtain ⟨f, _, hd⟩ := h
  obtain ⟨⟨xs, h1, _⟩, h3⟩ := hd.waits
  rw [← h3] at hk
  rcases h1.2 with ⟨e, _⟩ | ⟨g, cap, cur, e, hg, hh, r⟩
  · rw [e] at hk; simp [Value.ownBlock] at hk
  · rw [e] at hk
    simp only [Value.ownBlock, Option.some.injEq] at hk
    subst hk
    exact ⟨_, hh⟩
/-- The blocks of a disk. -/
abbrev its (b : Nat) (ow : Option Nat) (k : Nat) : Prop := k = b ∨ ow = some k
theorem DiskAt.typed {w : World} {b : Nat} {ow : Option Nat} {A : ADisk} (h : DiskAt w b ow A) {k : Nat} (hk : its b ow k) : ∃ c t, w.heap[k]? = some (.cells c t (0, 0)) ∧ (t = 80 ∨ t = 111) := by
  rcases hk with rfl | hk
  · obtain ⟨c, e⟩ := h.base; exact ⟨c, 80, e, .inl rfl⟩
  · obtain ⟨c, e⟩ := h.row hk; exact ⟨c, 111, e, .inr rfl⟩
theorem DiskAt.its_lt {w : World} {b : Nat} {ow : Option Nat} {A : ADisk} (h : DiskAt w b ow A) {k : Nat} (hk : its b ow k) : k < w.heap.size := by
  obtain ⟨c, t, e, _⟩ := h.typed hk
  exact (Array.getElem?_eq_some_iff.1 e).1
theorem DiskAt.apart {w : World} {b : Nat} {ow : Option Nat} {A : ADisk} (h : DiskAt w b ow A) : Apart (its b ow) w := by
  intro k c fr hk e
  obtain ⟨c', t, e', ht⟩ := h.typed hk
  rw [e] at e'
  injection e' with e'
  injection e' with _ e2 _
  rcases ht with rfl | rfl <;> cases e2
theorem DiskAt.own_ne {w : World} {b : Nat} {ow : Option Nat} {A : ADisk} (h : DiskAt w b ow A) {base : Nat} {e : TypeId} {size : Nat} {v : Value} {n : Nat} {xs : List Value} (hr : w.ownsRow base e size v n xs) (h1 : e ≠ 80) (h2 : e ≠ 111) :
    ∀ k, v.ownBlock = some k → ¬ its b ow k := by
  intro k hv hk
  obtain ⟨c, t, e', ht⟩ := h.typed hk
  refine Proofs.YtdccbceaajnajaaGreat.own_ne hr e' (fun e => ?_) hv
  rcases ht with h | h <;> subst h <;> subst e
  · exact h1 rfl
  · exact h2 rfl
/-- A disk beside one that turns. -/
theorem DiskAt.beside {w w' : World} {b b' : Nat} {ow ow' : Option Nat} {A A' : ADisk} (h : DiskAt w b' ow' A') (hd : DiskAt w b ow A) (ht : Turn (its b ow) w w') (hb : ¬ its b ow b') (ho : ∀ k, ow' = some k → ¬ its b ow k) : DiskAt w' b' ow' A' :=
  h.turn ht hd.apart hb ho

end Go.Proofs.YtdccbceaajnajaaGreat
