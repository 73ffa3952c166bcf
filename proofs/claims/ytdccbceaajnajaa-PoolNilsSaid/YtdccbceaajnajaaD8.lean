/- disk.Disk.there and disk.Disk.Read at each made disk. -/
import Derived.Test.YtdccbceaajnajaaD7
namespace Go.Proofs.Ytdccbceaajnajaa
open Go.RowKit
set_option linter.unusedSimpArgs false
set_option linter.unusedVariables false

theorem layAll_snoc (l : List (Nat × ByteArray)) (p : Nat × ByteArray) (s : Nat → ByteArray) (m : Nat) : layAll (l ++ [p]) s m = if m = p.1 then p.2 else layAll l s m := by
  simp [layAll, List.foldl_append, lay1]
theorem snocInd {α : Type} {P : List α → Prop} (h0 : P []) (h1 : ∀ l p, P l → P (l ++ [p])) (l : List α) : P l := by
  have : ∀ r : List α, P r.reverse := fun r => by
    induction r with
    | nil => exact h0
    | cons a r ih => rw [List.reverse_cons]; exact h1 _ _ ih
  simpa using this l.reverse
theorem layAll_none (s : Nat → ByteArray) (m : Nat) (l : List (Nat × ByteArray)) (h : ∀ p ∈ l, p.1 ≠ m) : layAll l s m = s m := by
  revert h
  refine snocInd (P := fun l => (∀ p ∈ l, p.1 ≠ m) → layAll l s m = s m) (fun _ => rfl) (fun l p ih h => ?_) l
  rw [layAll_snoc, if_neg (fun e => h p (by simp) e.symm)]
  exact ih fun q hq => h q (by simp [hq])
theorem layAll_last (s : Nat → ByteArray) (m : Nat) (l : List (Nat × ByteArray)) : ∀ j (hj : j < l.length), l[j].1 = m → (∀ i, j < i → (hi : i < l.length) → l[i].1 ≠ m) → layAll l s m = l[j].2 := by
  refine snocInd (P := fun l => ∀ j (hj : j < l.length), l[j].1 = m → (∀ i, j < i → (hi : i < l.length) → l[i].1 ≠ m) → layAll l s m = l[j].2) ?_ (fun l p ih => ?_) l
  · intro j hj; simp at hj
  · intro j hj he hl
    rw [layAll_snoc]
    by_cases e : j = l.length
    · subst e
      simp at he ⊢
      intro h; exact absurd he.symm h
    · have hj' : j < l.length := by simp at hj; omega
      have h2 := hl l.length hj' (by simp)
      simp at h2
      rw [if_neg (fun e => h2 e.symm)]
      rw [List.getElem_append_left hj'] at he ⊢
      exact ih j hj' he fun i hi hil => by
        have := hl i hi (by simp; omega)
        rwa [List.getElem_append_left hil] at this

def cellsOf (l : List (Nat × ByteArray)) (xs : List Value) : Cells where
  num j := ((l[j]?.map (·.1)).getD 0 : Nat)
  ptr j := match xs[j * 2 + 1]? with | some (.slice p _ _) => p | _ => none
  siz j := match xs[j * 2 + 1]? with | some (.slice _ n _) => n | _ => 0
  cap j := match xs[j * 2 + 1]? with | some (.slice _ _ c) => c | _ => 0
theorem cellsOf_at {w : World} {l : List (Nat × ByteArray)} {xs : List Value} (h : WaitCells w l xs) {j : Nat} (hj : j < l.length) :
    (cellsOf l xs).num j = (l[j].1 : Int) ∧ xs[j * 2]? = some (.int .i64 ((cellsOf l xs).num j)) ∧ xs[j * 2 + 1]? = some ((cellsOf l xs).bytes j) ∧ Content w ((cellsOf l xs).bytes j) l[j].2 := by
  obtain ⟨e1, u, e2, e3⟩ := h.2 j hj
  have hn : (cellsOf l xs).num j = (l[j].1 : Int) := by simp [cellsOf, hj]
  have hu := e3
  obtain ⟨⟨p, c, rfl, _⟩, _⟩ := hu
  have hb : (cellsOf l xs).bytes j = .slice p l[j].2.size c := by simp [Cells.bytes, cellsOf, e2]
  exact ⟨hn, by rw [hn]; exact e1, by rw [hb]; exact e2, by rw [hb]; exact e3⟩

theorem there_any (b : Nat) (ow : Option Nat) (A : ADisk) (m : Nat) (w : World) (h : DiskAt w b ow A) (hm : m < 3120) (hb3 : A.waits.length ≤ 1000000000) :
    Calls Try.prog 47 #[.pointer (some ⟨b, 0, none⟩), .int .i64 m] w fun e w' => ∃ v, e = .returned v ∧ Content w' v (layAll A.waits A.safe m) ∧ New w w' := by
  obtain ⟨f, hr, hi⟩ := h
  obtain ⟨xs, hx, hc⟩ := hi.waits.cells
  have c1 := hr.cell 3121 (by omega)
  have c2 := hr.cell (1 + m) (by omega)
  have hu := hi.safe m hm
  obtain ⟨q, k, ew, _⟩ := waits_slice hi.waits
  obtain ⟨g, hq, hg, hcs⟩ : ∃ g, (0 < A.waits.length → q = some ⟨g, 0, none⟩) ∧ g < w.heap.size ∧ ∀ j, j < A.waits.length → w.cell? ⟨g, j * 2, none⟩ = xs[j * 2]? ∧ w.cell? ⟨g, j * 2 + 1, none⟩ = xs[j * 2 + 1]? := by
    rcases Nat.eq_zero_or_pos A.waits.length with h0 | h0
    · exact ⟨b, fun h => by omega, hr.lt, fun j hj => by omega⟩
    · obtain ⟨g, cap, e, _, hg⟩ := hx.form h0
      rw [e] at ew hx
      injection ew with e1 _ e2
      exact ⟨g, fun _ => e1.symm, hg, fun j hj => ⟨hx.cellAt _ (by omega), hx.cellAt _ (by omega)⟩⟩
  rw [ew] at c1
  refine (callsIn_wide (n := 6)).1 ?_
  refine (there_in 6 (Nat.le_refl _) b m g _ k q (f (1 + m)) (cellsOf A.waits xs) w hm hb3 hq hg hr.lt (by obtain ⟨⟨p, c, e, _⟩, _⟩ := hu; exact ⟨_, _, _, e⟩) c1 c2 (fun j hj => ?_)).mono ?_
  · obtain ⟨_, e1, e2, _⟩ := cellsOf_at hc hj
    obtain ⟨d1, d2⟩ := hcs j hj
    exact ⟨d1.trans e1, d2.trans e2⟩
  · rintro e w' ⟨⟨hn, rfl⟩ | ⟨j, hj, hjm, hl, rfl⟩, hnew⟩
    · refine ⟨_, rfl, ?_, hnew⟩
      rw [layAll_none]
      · exact hu.new hnew
      · intro p hp e
        obtain ⟨i, hi', rfl⟩ := List.mem_iff_getElem.1 hp
        exact hn i hi' (by rw [(cellsOf_at hc hi').1, e])
    · refine ⟨_, rfl, ?_, hnew⟩
      rw [layAll_last _ _ _ j hj (by have := (cellsOf_at hc hj).1; omega) (fun i hi1 hi2 e => hl i hi1 hi2 (by rw [(cellsOf_at hc hi2).1, e]))]
      exact (cellsOf_at hc hj).2.2.2.new hnew

def readE (A : ADisk) (n : Int) : Int := if !isB n then 2 else if A.down then 7 else 0
def readB (A : ADisk) (n : Int) : ByteArray := if readE A n = 0 then layAll A.waits A.safe n.toNat else ByteArray.empty

/-- Each block's bytes are few. -/
def Small (A : ADisk) : Prop := (∀ i, i < 3120 → (A.safe i).size ≤ 340) ∧ ∀ p ∈ A.waits, p.2.size ≤ 340
theorem Small.lay {A : ADisk} (h : Small A) (m : Nat) (hm : m < 3120) : (layAll A.waits A.safe m).size ≤ 340 := by
  obtain ⟨h1, h2⟩ := h
  revert h2
  refine snocInd (P := fun l => (∀ p ∈ l, p.2.size ≤ 340) → (layAll l A.safe m).size ≤ 340) (fun _ => h1 m hm) (fun l p ih h2 => ?_) A.waits
  rw [layAll_snoc]
  split
  · exact h2 p (by simp)
  · exact ih fun q hq => h2 q (by simp [hq])

set_option maxHeartbeats 1000000 in
theorem read_any (b : Nat) (ow : Option Nat) (A : ADisk) (n : Int) (w : World) (h : DiskAt w b ow A) (hs : Small A) (hb3 : A.waits.length ≤ 1000000000) :
    Calls Try.prog 29 #[.pointer (some ⟨b, 0, none⟩), .int .i64 n] w fun e w' => ∃ v, e = .returned (.tuple #[v, .int .i64 (readE A n)]) ∧ Content w' v (readB A n) ∧ New w w' := by
  have hd0 := hid h
  obtain ⟨f, hr, hd⟩ := h
  have c0 := hr.cell 0 (by omega)
  rw [hd.made] at c0
  have c3 := hr.cell 3122 (by omega)
  rw [hd.down] at c3
  clear hr hd
  cases hB : isB n with
  | false =>
    go_enter Try.func29, Try.ntmps29
    go_wp2_with fail
    refine (none_no b w c0).mono ?_
    rintro e w' ⟨rfl, rfl⟩
    go_wp2_with fail
    refine (isBlock_any _ _).mono ?_
    rintro e w' ⟨rfl, rfl⟩
    rw [hB]
    go_wp2
    go_ret2
    exact ⟨.slice none 0 0, by simp [readE, hB], by simp [readB, readE, hB]; exact Content.nil w, New.refl w⟩
  | true =>
    cases hdn : A.down with
    | true =>
      rw [hdn] at c3
      go_enter Try.func29, Try.ntmps29
      go_wp2_with fail
      refine (none_no b w c0).mono ?_
      rintro e w' ⟨rfl, rfl⟩
      go_wp2_with fail
      refine (isBlock_any _ _).mono ?_
      rintro e w' ⟨rfl, rfl⟩
      rw [hB]
      go_wp2
      go_ret2
      exact ⟨.slice none 0 0, by simp [readE, hB, hdn], by simp [readB, readE, hB, hdn]; exact Content.nil w, New.refl w⟩
    | false =>
      rw [hdn] at c3
      obtain ⟨m, rfl⟩ : ∃ m : Nat, n = (m : Int) := ⟨n.toNat, by unfold isB at hB; simp at hB; omega⟩
      have hm : m < 3120 := by unfold isB at hB; simp at hB; omega
      have HM := hid hm
      have HB := hid hb3
      have HS := hid (hs.lay m hm)
      clear hm hb3
      go_enter Try.func29, Try.ntmps29
      go_wp2_with fail
      refine (none_no b w c0).mono ?_
      rintro e w' ⟨rfl, rfl⟩
      go_wp2_with fail
      refine (isBlock_any _ _).mono ?_
      rintro e w' ⟨rfl, rfl⟩
      rw [hB]
      go_wp2_with fail
      refine (there_any b ow A m _ hd0.out HM.out HB.out).mono ?_
      rintro e w1 ⟨v, rfl, hv, hn1⟩
      go_wp2_with fail
      refine (cloneBytes_any v _ _ hv.1 (by have := HS.out; omega)).mono ?_
      rintro e w2 ⟨p, k, rfl, hu, hn2⟩
      go_wp2
      go_ret2
      refine ⟨.slice p (layAll A.waits A.safe m).size k, by simp [readE, hB, hdn], ?_, hn1.trans hn2⟩
      have : readB A (m : Int) = layAll A.waits A.safe m := by simp [readB, readE, hB, hdn]
      rw [this]
      exact hu

end Go.Proofs.Ytdccbceaajnajaa
