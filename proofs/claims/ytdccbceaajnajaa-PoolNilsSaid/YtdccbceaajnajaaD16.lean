/- slices.Clone at []disk.write. disk.Disk.Copy at each made disk. -/
import Derived.Test.YtdccbceaajnajaaD8
import Derived.Deep.Onto
import Derived.Test.YtdccbceaajnajaaD11
import Derived.Laws.Tables
import Derived.Laws.Rows
import Derived.Deep.WholeRow
namespace Go.Proofs.Ytdccbceaajnajaa
open Go.RowKit
set_option linter.unusedSimpArgs false
set_option linter.unusedVariables false

set_option maxRecDepth 10000 in
/-- append(row, l...): a row of waiting writes, whole. -/
theorem app_waits {ops : Array Oper} {rest : List Oper} {o : Oper} {a : Act} {w : World} {Q : Exit → Act → World → Prop} (hgd : o.guard = none) (sl x : Operand)
    (ho : o.op = .call { callee := .builtin .append, args := #[sl, x], argTypes := #[61, 61] }) (base : Nat)
    (v : Value) (n : Nat) (xs : List Value) (hs : a.eval sl = v) (hown : w.ownsRow base 103 2 v n xs) (q : Addr) (m c : Nat) (news : List Value) (hx : a.eval x = .slice (some q) m c) (hl : news.length = m * 2)
    (hn : ∀ j u, news[j]? = some u → w.cell? (q.add j) = some u) (h1 : ∀ u ∈ news, u.oneCell' = true)
    (hb : n + m ≤ 1000000000) (hbase : base ≤ w.heap.size)
    (h : ∀ v' w', w'.ownsRow base 103 2 v' (n + m) (xs ++ news) → w.grownBy w' v.ownBlock → (v'.ownBlock = v.ownBlock ∨ v'.ownBlock = some w.heap.size) → wpList Try.prog ops Q rest (a.put o.dst v') w') : wpList Try.prog ops Q (o :: rest) a w := by
  obtain ⟨i0, hi, hz0, hz1, hz2⟩ := info_parts info97
  exact wpList_append_own_at w hgd sl x 61 ho base 103 i0 _ 2 32 Try.underlying61 hi hz0 hz1 hz2 rfl (by decide) v n xs hs hown q m c news hx hl hn h1 (by unfold maxLen; omega) (by omega) hbase fun v' w' h1 h2 _ h4 => h v' w' h1 h2 h4

/-- The waiting writes come back in new memory. -/
def WaitsBack (l : List (Nat × ByteArray)) (w : World) (e : Ending) (w' : World) : Prop := ∃ p c ow, e = .returned (.slice p l.length c) ∧ Waits w' (.slice p l.length c) ow l ∧ New w w' ∧ ∀ k, ow = some k → w.heap.size ≤ k

theorem WaitCells.one {w : World} {l : List (Nat × ByteArray)} {xs : List Value} (h : WaitCells w l xs) : ∀ u ∈ xs, u.oneCell' = true := by
  intro u hu
  obtain ⟨i, hi, rfl⟩ := List.mem_iff_getElem.1 hu
  have hl := h.1
  obtain ⟨e1, v, e2, e3⟩ := h.2 (i / 2) (by omega)
  rcases Nat.mod_two_eq_zero_or_one i with h0 | h0
  · rw [show i / 2 * 2 = i by omega, List.getElem?_eq_getElem hi] at e1
    injection e1 with e1
    rw [e1]; rfl
  · rw [show i / 2 * 2 + 1 = i by omega, List.getElem?_eq_getElem hi] at e2
    injection e2 with e2
    rw [e2]
    obtain ⟨⟨p, c, e, _⟩, _⟩ := e3
    rw [e]; rfl

set_option maxHeartbeats 800000 in
theorem cloneWaits_any (v : Value) (ow : Option Nat) (l : List (Nat × ByteArray)) (w : World) (h : Waits w v ow l) (hl : l.length ≤ 1000000000) : Calls Try.prog 56 #[v] w (WaitsBack l w) := by
  obtain ⟨xs, hx, hc⟩ := h.cells
  obtain ⟨p, c, rfl, _⟩ := waits_slice h
  cases p with
  | none =>
    have hz : l.length = 0 := by
      rcases Nat.eq_zero_or_pos l.length with h | h
      · exact h
      · obtain ⟨g, cap, e, _⟩ := hx.form h
        cases e
    have he : l = [] := List.eq_nil_of_length_eq_zero hz
    subst he
    have hq := fun (w : World) => Lib.run_eql_slice_nil (P := Try.prog) w 61 103 none 0 c 0 0 Try.underlying61
    clear h hx hc
    go_enter Try.func56, Try.ntmps56
    go_wp2
    go_ret
    exact ⟨none, 0, none, rfl, ⟨⟨[], ⟨rfl, .inl ⟨rfl, rfl⟩⟩, fun i h => absurd h (Nat.not_lt_zero _)⟩, rfl⟩, New.refl w, fun k hk => by cases hk⟩
  | some q =>
    obtain ⟨g0, rfl⟩ : ∃ g0, q = ⟨g0, 0, none⟩ := by
      rcases hx.2 with ⟨e, _⟩ | ⟨g, cap, cur, e, _⟩
      · cases e
      · injection e with e _ _; injection e with e; exact ⟨g, e⟩
    have hq := fun (w : World) => Lib.run_eql_slice_nil (P := Try.prog) w 61 103 (some ⟨g0, 0, none⟩) l.length c 0 0 Try.underlying61
    have HX := hid (own_old hx ((New.refl w).alloc #[] 103))
    have HC := hid hc
    have HL := hid hl
    clear h hx hc hl
    go_enter Try.func56, Try.ntmps56
    go_wp2_with (at_builtin; refine app_waits rfl _ _ rfl w.heap.size _ 0 [] rfl (World.ownsRow_lit w #[] 0 (Nat.le_refl _) (by decide) rfl) ⟨g0, 0, none⟩ l.length c xs rfl HC.out.1 ?c0 HC.out.one ?c1 ?c2 ?_)
    case c0 => exact HX.out.cells rfl
    case c1 => have := HL.out; omega
    case c2 => simp
    intro v' w' hown hg hblk
    obtain ⟨A, k, rfl⟩ : ∃ A k, v' = .slice A l.length k := by
      rcases hown.2 with ⟨rfl, e⟩ | ⟨g, cap, cur, rfl, _⟩
      · exact ⟨_, _, by rw [e]⟩
      · exact ⟨_, _, rfl⟩
    have hnew : New w w' := ((New.refl w).alloc #[] 103).grown hg (by simp) (by simp [Value.ownBlock])
    have HO := hid hown
    clear hown
    go_wp2
    go_ret
    exact ⟨A, k, _, rfl, ⟨⟨xs, (by simpa using HO.out.mono (Nat.zero_le _)), (HC.out.turn (Turn.of_new (S := fun _ => False) hnew) (apart_none w)).2⟩, rfl⟩, hnew, fun k hk => (HO.out.lt k hk).1⟩

end Go.Proofs.Ytdccbceaajnajaa

namespace Go.Proofs.Ytdccbceaajnajaa
open Go.RowKit
set_option linter.unusedSimpArgs false
set_option linter.unusedVariables false

theorem size69 : (Try.prog.info? 63).map (·.size) = some 3126 := by kernel_rfl
theorem zeros69 : Try.zeroCells63.size = 3126 := by kernel_rfl
theorem Content.oneCell {w : World} {v : Value} {s : ByteArray} (h : Content w v s) : v.oneCell' = true := by
  obtain ⟨⟨p, c, rfl, _⟩, _⟩ := h; rfl
theorem DiskIs.one {w : World} {f : Nat → Value} {ow : Option Nat} {A : ADisk} (h : DiskIs w f ow A) (i : Nat) (hi : i < 3126) : (f i).oneCell' = true := by
  rcases Nat.lt_or_ge i 1 with h1 | h1
  · rw [show i = 0 by omega, h.made]; rfl
  rcases Nat.lt_or_ge i 3121 with h2 | h2
  · have := (h.safe (i - 1) (by omega)).oneCell
    rwa [show 1 + (i - 1) = i by omega] at this
  rcases Nat.lt_or_ge i 3122 with h3 | h3
  · obtain ⟨p, c, e, _⟩ := waits_slice h.waits
    rw [show i = 3121 by omega, e]; rfl
  rcases Nat.lt_or_ge i 3123 with h4 | h4
  · rw [show i = 3122 by omega, h.down]; rfl
  rcases Nat.lt_or_ge i 3124 with h5 | h5
  · rw [show i = 3123 by omega, h.armed]; rfl
  rcases Nat.lt_or_ge i 3125 with h6 | h6
  · rw [show i = 3124 by omega, h.acts]; rfl
  · rw [show i = 3125 by omega, h.falls]; rfl

theorem DiskIs.rewait {w : World} {g : Nat} {f : Nat → Value} {ow ow2 : Option Nat} {A : ADisk} {v : Value} (hr : Raw w g 63 3126 f) (hi : DiskIs w f ow A) (hne : ∀ k, ow = some k → ¬ k = g) (hw : Waits w v ow2 A.waits) :
    DiskIs (w.setCell ⟨g, 3121, none⟩ v) (upd f 3121 v) ow2 A := by
  have ht : Turn (· = g) w (w.setCell ⟨g, 3121, none⟩ v) := Turn.setCell (S := (· = g)) (p := ⟨g, 3121, none⟩) (Turn.refl _ w) rfl _
  have hap := apart_disk hr
  have d := hi.turn ht hap hne
  constructor
  case made => rw [upd_other _ _ (by decide)]; exact d.made
  case safe => exact fun i h => by rw [upd_other _ _ (by omega)]; exact d.safe i h
  case waits => rw [upd_same]; exact hw.turn ht hap (waits_ne hr hw)
  case down => rw [upd_other _ _ (by decide)]; exact d.down
  case armed => rw [upd_other _ _ (by decide)]; exact d.armed
  case acts => rw [upd_other _ _ (by decide)]; exact d.acts
  case falls => rw [upd_other _ _ (by decide)]; exact d.falls
  case inside => exact d.inside
  case armed0 => exact d.armed0
  case acts0 => exact d.acts0
  case falls0 => exact d.falls0

/-- A new disk that has the same. -/
def CopyBack (A : ADisk) (w : World) (e : Ending) (w' : World) : Prop := ∃ b' ow', e = .returned (.pointer (some ⟨b', 0, none⟩)) ∧ Mine' w w' b' ow' A
  where Mine' (w a : World) (b : Nat) (ow : Option Nat) (A : ADisk) : Prop := DiskAt a b ow A ∧ New w a ∧ w.heap.size ≤ b ∧ ∀ k, ow = some k → w.heap.size ≤ k

set_option maxHeartbeats 2000000 in
set_option maxRecDepth 100000 in
theorem copy_any (b : Nat) (ow : Option Nat) (A : ADisk) (w : World) (h : DiskAt w b ow A) (hb3 : A.waits.length ≤ 1000000000) : Calls Try.prog 33 #[.pointer (some ⟨b, 0, none⟩)] w (CopyBack A w) := by
  obtain ⟨f, ⟨cs, hg, hsz, hcs⟩, hd⟩ := h
  have hr : Raw w b 63 3126 f := ⟨cs, hg, hsz, hcs⟩
  have c0 := hr.cell 0 (by omega)
  rw [hd.made] at c0
  have c1 := hr.cell 3121 (by omega)
  obtain ⟨q, k, ew, _⟩ := waits_slice hd.waits
  rw [ew] at c1
  have hlt := hr.lt
  have h1 : cs.all (·.oneCell') = true := by
    rw [Array.all_eq_true]
    intro i hi
    have e := hcs i (by omega)
    rw [Array.getElem?_eq_getElem hi] at e
    injection e with e
    rw [e]; exact hd.one i (by omega)
  have HG := hid hg
  have HR := hid hr
  have HD := hid hd
  have H1 := hid h1
  have HS := hid (show (Try.prog.info? 63).map (·.size) = some cs.size by rw [hsz]; exact size69)
  have HZ := hid (show Try.zeroCells63.size = cs.size by rw [hsz]; exact zeros69)
  have HE := hid ew
  have HB := hid hb3
  have HSZ := hid hsz
  have HCS := hid hcs
  clear hg hr hd h1 hsz hcs ew hb3
  go_enter Try.func33, Try.ntmps33
  go_wp2_with fail
  refine (none_no b w c0).mono ?_
  rintro e w' ⟨rfl, rfl⟩
  go_wp2_with (first
    | (with_reducible refine wpList_load_row rfl 63 _ rfl b rfl 63 cs (0, 0) _ HG.out Try.underlying63 rfl HS.out ?_)
    | (with_reducible refine wpList_store_row rfl 63 _ _ rfl w.heap.size cs rfl rfl 63 Try.zeroCells63 (World.alloc_heap_new w _) HS.out HZ.out H1.out ?_; rw [World.setRow_alloc_new]))
  have hn1 : New w (w.alloc (.cells cs 63)) := (New.refl w).alloc _ _
  have HW := HD.out.waits.turn (Turn.of_new (S := fun _ => False) hn1) (apart_none w) (fun _ _ h => h)
  rw [HE.out] at HW
  refine (cloneWaits_any _ ow A.waits _ HW HB.out).mono ?_
  rintro e w2 ⟨p2, k2, ow2, rfl, hw2, hn2, ho2⟩
  have hr1 : Raw (w.alloc (.cells cs 63)) w.heap.size 63 3126 f := ⟨cs, World.alloc_heap_new w _, HSZ.out, HCS.out⟩
  have hr2 : Raw w2 w.heap.size 63 3126 f := hr1.turn (Turn.of_new (S := fun _ => False) hn2) (fun h => h)
  have hi2 := HD.out.turn (Turn.of_new (S := fun _ => False) (hn1.trans hn2)) (apart_none w) (fun _ _ h => h)
  have c2 := hr2.cell 3121 (by omega)
  have z2 := hr2.frozen 3121
  have HI2 := hid hi2
  have HR2 := hid hr2
  have HW2 := hid hw2
  have HO2 := hid ho2
  have hlo : ∀ k, ow = some k → ¬ k = w.heap.size := fun k hk => by
    obtain ⟨xs, hx, _⟩ := HD.out.waits.cells
    have := (hx.lt k (by rw [HD.out.waits.blk]; exact hk)).2
    omega
  have HLO := hid hlo
  clear hr1 hr2 hi2 hw2 ho2 HW hlo
  go_wp2
  go_ret
  refine ⟨w.heap.size, ow2, rfl, ⟨_, HR2.out.set 3121 _, HI2.out.rewait HR2.out HLO.out HW2.out⟩, ?_, Nat.le_refl _, fun k hk => Nat.le_trans hn1.size (HO2.out k hk)⟩
  exact (hn1.trans hn2).turn (Turn.setCell (S := (· = w.heap.size)) (p := ⟨w.heap.size, 3121, none⟩) (Turn.refl _ w2) rfl _) (fun k hk hs => by omega)

end Go.Proofs.Ytdccbceaajnajaa
