/- disk.Disk.Copy at each made disk. -/
import Derived.Test.YtbclgklpcbajfaaD15
import Derived.Test.YtbclgklpcbajfaaD11
import Derived.Laws.Tables
import Derived.Laws.Rows
import Derived.Deep.WholeRow
namespace Go.Proofs.Ytbclgklpcbajfaa
open Go.RowKit
set_option linter.unusedSimpArgs false
set_option linter.unusedVariables false

theorem size69 : (Try.prog.info? 69).map (·.size) = some 3126 := by kernel_rfl
theorem zeros69 : Try.zeroCells69.size = 3126 := by kernel_rfl
theorem Content.oneCell {w : World} {v : Value} {s : ByteArray} (h : Content w v s) : v.oneCell' = true := by
  obtain ⟨⟨p, c, rfl, _⟩, _⟩ := h; rfl
theorem DiskIs.one {w : World} {f : Nat → Value} {ow : Option Nat} {A : ADisk} (h : DiskIs w f ow A) (i : Nat) (hi : i < 3126) : (f i).oneCell' = true := by
  rcases Nat.lt_or_ge i 1 with h1 | h1
  · rw [show i = 0 by omega, h.made]; rfl
  rcases Nat.lt_or_ge i 3121 with h2 | h2
  · have := (h.safe (i - 1) (by omega)).oneCell
    rwa [show 1 + (i - 1) = i by omega] at this
  rcases Nat.lt_or_ge i 3122 with h3 | h3
  · obtain ⟨p, c, e, _⟩ := waits_slice h.waits
    rw [show i = 3121 by omega, e]; rfl
  rcases Nat.lt_or_ge i 3123 with h4 | h4
  · rw [show i = 3122 by omega, h.down]; rfl
  rcases Nat.lt_or_ge i 3124 with h5 | h5
  · rw [show i = 3123 by omega, h.armed]; rfl
  rcases Nat.lt_or_ge i 3125 with h6 | h6
  · rw [show i = 3124 by omega, h.acts]; rfl
  · rw [show i = 3125 by omega, h.falls]; rfl

theorem DiskIs.rewait {w : World} {g : Nat} {f : Nat → Value} {ow ow2 : Option Nat} {A : ADisk} {v : Value} (hr : Raw w g 69 3126 f) (hi : DiskIs w f ow A) (hne : ∀ k, ow = some k → ¬ k = g) (hw : Waits w v ow2 A.waits) :
    DiskIs (w.setCell ⟨g, 3121, none⟩ v) (upd f 3121 v) ow2 A := by
  have ht : Turn (· = g) w (w.setCell ⟨g, 3121, none⟩ v) := Turn.setCell (S := (· = g)) (p := ⟨g, 3121, none⟩) (Turn.refl _ w) rfl _
  have hap := apart_disk hr
  have d := hi.turn ht hap hne
  constructor
  case made => rw [upd_other _ _ (by decide)]; exact d.made
  case safe => exact fun i h => by rw [upd_other _ _ (by omega)]; exact d.safe i h
  case waits => rw [upd_same]; exact hw.turn ht hap (waits_ne hr hw)
  case down => rw [upd_other _ _ (by decide)]; exact d.down
  case armed => rw [upd_other _ _ (by decide)]; exact d.armed
  case acts => rw [upd_other _ _ (by decide)]; exact d.acts
  case falls => rw [upd_other _ _ (by decide)]; exact d.falls
  case inside => exact d.inside
  case armed0 => exact d.armed0
  case acts0 => exact d.acts0
  case falls0 => exact d.falls0

/-- A new disk that has the same. -/
def CopyBack (A : ADisk) (w : World) (e : Ending) (w' : World) : Prop := ∃ b' ow', e = .returned (.pointer (some ⟨b', 0, none⟩)) ∧ Mine' w w' b' ow' A
  where Mine' (w a : World) (b : Nat) (ow : Option Nat) (A : ADisk) : Prop := DiskAt a b ow A ∧ New w a ∧ w.heap.size ≤ b ∧ ∀ k, ow = some k → w.heap.size ≤ k

set_option maxHeartbeats 2000000 in
set_option maxRecDepth 100000 in
theorem copy_any (b : Nat) (ow : Option Nat) (A : ADisk) (w : World) (h : DiskAt w b ow A) (hb3 : A.waits.length ≤ 1000000000) : Calls Try.prog 24 #[.pointer (some ⟨b, 0, none⟩)] w (CopyBack A w) := by
  obtain ⟨f, ⟨cs, hg, hsz, hcs⟩, hd⟩ := h
  have hr : Raw w b 69 3126 f := ⟨cs, hg, hsz, hcs⟩
  have c0 := hr.cell 0 (by omega)
  rw [hd.made] at c0
  have c1 := hr.cell 3121 (by omega)
  obtain ⟨q, k, ew, _⟩ := waits_slice hd.waits
  rw [ew] at c1
  have hlt := hr.lt
  have h1 : cs.all (·.oneCell') = true := by
    rw [Array.all_eq_true]
    intro i hi
    have e := hcs i (by omega)
    rw [Array.getElem?_eq_getElem hi] at e
    injection e with e
    rw [e]; exact hd.one i (by omega)
  have HG := hid hg
  have HR := hid hr
  have HD := hid hd
  have H1 := hid h1
  have HS := hid (show (Try.prog.info? 69).map (·.size) = some cs.size by rw [hsz]; exact size69)
  have HZ := hid (show Try.zeroCells69.size = cs.size by rw [hsz]; exact zeros69)
  have HE := hid ew
  have HB := hid hb3
  have HSZ := hid hsz
  have HCS := hid hcs
  clear hg hr hd h1 hsz hcs ew hb3
  go_enter Try.func24, Try.ntmps24
  go_wp2_with fail
  refine (none_no b w c0).mono ?_
  rintro e w' ⟨rfl, rfl⟩
  go_wp2_with (first
    | (with_reducible refine wpList_load_row rfl 69 _ rfl b rfl 69 cs (0, 0) _ HG.out Try.underlying69 rfl HS.out ?_)
    | (with_reducible refine wpList_store_row rfl 69 _ _ rfl w.heap.size cs rfl rfl 69 Try.zeroCells69 (World.alloc_heap_new w _) HS.out HZ.out H1.out ?_; rw [World.setRow_alloc_new]))
  have hn1 : New w (w.alloc (.cells cs 69)) := (New.refl w).alloc _ _
  have HW := HD.out.waits.turn (Turn.of_new (S := fun _ => False) hn1) (apart_none w) (fun _ _ h => h)
  rw [HE.out] at HW
  refine (cloneWaits_any _ ow A.waits _ HW HB.out).mono ?_
  rintro e w2 ⟨p2, k2, ow2, rfl, hw2, hn2, ho2⟩
  have hr1 : Raw (w.alloc (.cells cs 69)) w.heap.size 69 3126 f := ⟨cs, World.alloc_heap_new w _, HSZ.out, HCS.out⟩
  have hr2 : Raw w2 w.heap.size 69 3126 f := hr1.turn (Turn.of_new (S := fun _ => False) hn2) (fun h => h)
  have hi2 := HD.out.turn (Turn.of_new (S := fun _ => False) (hn1.trans hn2)) (apart_none w) (fun _ _ h => h)
  have c2 := hr2.cell 3121 (by omega)
  have z2 := hr2.frozen 3121
  have HI2 := hid hi2
  have HR2 := hid hr2
  have HW2 := hid hw2
  have HO2 := hid ho2
  have hlo : ∀ k, ow = some k → ¬ k = w.heap.size := fun k hk => by
    obtain ⟨xs, hx, _⟩ := HD.out.waits.cells
    have := (hx.lt k (by rw [HD.out.waits.blk]; exact hk)).2
    omega
  have HLO := hid hlo
  clear hr1 hr2 hi2 hw2 ho2 HW hlo
  go_wp2
  go_ret
  refine ⟨w.heap.size, ow2, rfl, ⟨_, HR2.out.set 3121 _, HI2.out.rewait HR2.out HLO.out HW2.out⟩, ?_, Nat.le_refl _, fun k hk => Nat.le_trans hn1.size (HO2.out k hk)⟩
  exact (hn1.trans hn2).turn (Turn.setCell (S := (· = w.heap.size)) (p := ⟨w.heap.size, 3121, none⟩) (Turn.refl _ w2) rfl _) (fun k hk hs => by omega)

end Go.Proofs.Ytbclgklpcbajfaa
