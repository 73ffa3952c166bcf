/- disk.Disk.Lose at each made disk. -/
import Derived.Test.YtbclgklpcbajfaaD37
namespace Go.Proofs.Ytbclgklpcbajfaa
open Go.RowKit
set_option linter.unusedSimpArgs false
set_option linter.unusedVariables false

/-- Other waiting writes laid, their row turned. -/
theorem DiskIs.relaid {w1 w3 : World} {b : Nat} {f : Nat → Value} {ow ow2 : Option Nat} {A : ADisk} (hr : Raw w1 b 69 3126 f) (hi : DiskIs w1 f ow A) (ht : Turn (fun k => ow = some k) w1 w3) {v : Value} {l : List (Nat × ByteArray)}
    (hw : Waits w3 v ow2 l) (hin : ∀ p ∈ l, p.1 < 3120) :
    DiskAt (w3.setCell ⟨b, 3121, none⟩ v) b ow2 { A with waits := l } ∧ Turn (its b ow) w1 (w3.setCell ⟨b, 3121, none⟩ v) := by
  have hne := waits_ne hr hi.waits
  obtain ⟨xs, hx, _⟩ := hi.waits.cells
  have hbl := hi.waits.blk
  have hap1 : Apart (fun k => ow = some k) w1 := by
    have := apart_own hx (by decide)
    intro k' c' fr' hk' e'
    exact this k' c' fr' (hbl.trans hk') e'
  have hr3 : Raw w3 b 69 3126 f := hr.turn ht (fun h => hne b h rfl)
  have hset : Turn (· = b) w3 (w3.setCell ⟨b, 3121, none⟩ v) := Turn.setCell (S := (· = b)) (p := ⟨b, 3121, none⟩) (Turn.refl _ w3) rfl v
  have hap3 := apart_disk hr3
  refine ⟨⟨_, hr3.set 3121 v, ?_⟩, (ht.mono fun k _ h => .inr h).trans (hset.mono fun k _ h => .inl h)⟩
  constructor
  case made => rw [upd_other _ _ (by decide)]; exact hi.made
  case safe => exact fun i h => by rw [upd_other _ _ (by omega)]; exact ((hi.safe i h).turn ht hap1).turn hset hap3
  case waits => rw [upd_same]; exact hw.turn hset hap3 (waits_ne hr3 hw)
  case down => rw [upd_other _ _ (by decide)]; exact hi.down
  case armed => rw [upd_other _ _ (by decide)]; exact hi.armed
  case acts => rw [upd_other _ _ (by decide)]; exact hi.acts
  case falls => rw [upd_other _ _ (by decide)]; exact hi.falls
  case inside => exact hin
  case armed0 => exact hi.armed0
  case acts0 => exact hi.acts0
  case falls0 => exact hi.falls0

set_option maxHeartbeats 4000000 in
set_option maxRecDepth 100000 in
theorem lose_any (b : Nat) (ow : Option Nat) (A : ADisk) (n : Int) (w : World) (h : DiskAt w b ow A) (hb3 : A.waits.length ≤ 100000000) :
    Calls Try.prog 40 #[.pointer (some ⟨b, 0, none⟩), .int .i64 n] w (DiskMoved b ow (.int .i64 (loseE n)) (loseA A n) w) := by
  have H := hid h
  cases hn : isB n with
  | false =>
    have e1 : loseE n = 2 := by simp [loseE, hn]
    have e2 : loseA A n = A := by simp [loseA, hn]
    rw [e1, e2]
    obtain ⟨f, hr, hd⟩ := h
    have c0 := hr.cell 0 (by omega)
    rw [hd.made] at c0
    have hlt := hr.lt
    clear hr hd
    go_enter Try.func40, Try.ntmps40
    go_wp2_with fail
    refine (none_no b _ (((New.refl w).alloc _ _).cell _ _ hlt |>.trans c0)).mono ?_
    rintro e w' ⟨rfl, rfl⟩
    go_wp2_with fail
    refine (isBlock_any n _).mono ?_
    rintro e w' ⟨rfl, rfl⟩
    rw [hn]
    go_wp2
    go_ret
    have hn1 : New w (w.alloc (.cells #[.int .i64 n] 3)) := (New.refl w).alloc _ _
    exact ⟨rfl, ow, H.out.new hn1, fun k hk => .inl hk, Turn.of_new hn1⟩
  | true =>
    obtain ⟨m, rfl⟩ : ∃ m : Nat, n = m := ⟨n.toNat, by unfold isB at hn; simp at hn; omega⟩
    have hm : m < 3120 := isB_lt hn
    have e1 : loseE m = 0 := by simp [loseE, hn]
    have e2 : loseA A m = { A with safe := lay1 A.safe (m, ByteArray.empty), waits := others m A.waits } := by simp [loseA, hn]
    rw [e1, e2]
    obtain ⟨f, hr, hd⟩ := h
    have c0 := hr.cell 0 (by omega)
    rw [hd.made] at c0
    have cm := hr.cell (1 + m) (by omega)
    have zm := hr.frozen (1 + m)
    have c1 := hr.cell 3121 (by omega)
    have z1 := hr.frozen 3121
    obtain ⟨q, k, ew, _⟩ := waits_slice hd.waits
    rw [ew] at c1
    obtain ⟨po, so, co, eso⟩ : ∃ p s c, f (1 + m) = .slice p s c := by obtain ⟨⟨p, c, e, _⟩, _⟩ := hd.safe _ hm; exact ⟨_, _, _, e⟩
    rw [eso] at cm
    have hlt := hr.lt
    have HR := hid hr
    have HD := hid hd
    have HE := hid ew
    have hn1 : New w (w.alloc (.cells #[.int .i64 (m : Int)] 3)) := (New.refl w).alloc _ _
    have c0' := (hn1.cell _ _ hlt).trans c0
    clear hr hd ew eso e1 e2
    go_enter Try.func40, Try.ntmps40
    go_wp2_with fail
    refine (none_no b _ c0').mono ?_
    rintro e w' ⟨rfl, rfl⟩
    go_wp2_with fail
    refine (isBlock_any m _).mono ?_
    rintro e w' ⟨rfl, rfl⟩
    rw [hn]
    clear c0'
    go_wp2
    go_region
    all_goals
      go_wp2_with fail
      have hr1 := HR.out.set (1 + m) (.slice none 0 0)
      have hi1 := HD.out.lay HR.out hm (Content.nil w)
      have hset : Turn (· = b) w (w.setCell ⟨b, 1 + m, none⟩ (.slice none 0 0)) := Turn.setCell (S := (· = b)) (p := ⟨b, 1 + m, none⟩) (Turn.refl _ w) rfl _
      have hn2 : New (w.setCell ⟨b, 1 + m, none⟩ (.slice none 0 0)) ((w.setCell ⟨b, 1 + m, none⟩ (.slice none 0 0)).alloc (.cells #[.int .i64 (m : Int)] 3)).drew := ((New.refl _).alloc _ _).drew
      have hbox : ((w.setCell ⟨b, 1 + m, none⟩ (.slice none 0 0)).alloc (.cells #[.int .i64 (m : Int)] 3)).drew.heap[w.heap.size]? = some (.cells #[.int .i64 (m : Int)] 3 (0, 0)) := by
        have := World.alloc_heap_new (w.setCell ⟨b, 1 + m, none⟩ (.slice none 0 0)) (.cells #[.int .i64 (m : Int)] 3)
        rw [show (w.setCell ⟨b, 1 + m, none⟩ (.slice none 0 0)).heap.size = w.heap.size by simp [World.setCell]] at this
        exact this
      have hr2 := hr1.turn (Turn.of_new (S := fun _ => False) hn2) (fun h => h)
      have hi2 := hi1.turn (Turn.of_new (S := fun _ => False) hn2) (apart_none _) (fun _ _ h => h)
      have hw2 := hi2.waits
      rw [upd_other _ _ (by omega), HE.out] at hw2
      have hl2 : b < ((w.setCell ⟨b, 1 + m, none⟩ (.slice none 0 0)).alloc (.cells #[.int .i64 (m : Int)] 3)).drew.heap.size := hr2.lt
      refine (del_any _ ow A.waits m w.heap.size _ hw2 hbox hb3).mono ?_
      rintro e w3 ⟨p3, k3, rfl, hw3, ht3⟩
      have hr3 : Raw w3 b 69 3126 _ := hr2.turn ht3 (fun h => waits_ne hr2 hi2.waits b h rfl)
      have c3 := hr3.cell 3121 (by omega)
      have z3 := hr3.frozen 3121
      have hfin := hid (hi2.relaid hr2 ht3 hw3 (fun p hp => HD.out.inside p (others_mem hp)))
      have HT := hid ((hset.mono fun k _ h => (Or.inl h : its b ow k)).trans (Turn.of_new hn2))
      clear hr1 hi1 hset hn2 hbox hr2 hi2 hw2 hl2 hw3 ht3 hr3
      go_wp2
      go_ret
      exact ⟨rfl, ow, hfin.out.1, fun k hk => .inl hk, HT.out.trans hfin.out.2⟩

end Go.Proofs.Ytbclgklpcbajfaa
