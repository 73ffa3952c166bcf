/- slices.Clone at []disk.write. disk.Disk.Copy at each made disk. What bytes.Equal and slices.Equal at []api.Open return, for all slices. What tape.SameRecord returns, for every two records. What progenyref03.SameRecord returns, for every two records. tape.Tape.Force, Record and Records. tape.Tape.Records, Record where there is none, and progenyref03.SameRecords. progenyref03.SameRecords over every two lists of records. Bounds of a disk (Lim). -/
import Derived.Test.YtdccbceaajnajaaGreatD45
import Derived.Deep.Onto
import Derived.Laws.Tables
import Derived.Laws.Rows
import Derived.Deep.WholeRow
import Derived.Test.YtdccbceaajnajaaGreatProg
import Derived.Test.YtdccbceaajnajaaGreatA9
import Derived.Test.YtdccbceaajnajaaGreatT14
import Derived.Test.YtdccbceaajnajaaGreatU2
namespace Go.Proofs.YtdccbceaajnajaaGreat
open Go.RowKit
set_option linter.unusedSimpArgs false
set_option linter.unusedVariables false

set_option maxRecDepth 10000 in
/-- append(row, l...): a row of waiting writes, whole. -/
theorem app_waits {ops : Array Oper} {rest : List Oper} {o : Oper} {a : Act} {w : World} {Q : Exit → Act → World → Prop} (hgd : o.guard = none) (sl x : Operand)
    (ho : o.op = .call { callee := .builtin .append, args := #[sl, x], argTypes := #[78, 78] }) (base : Nat)
    (v : Value) (n : Nat) (xs : List Value) (hs : a.eval sl = v) (hown : w.ownsRow base 111 2 v n xs) (q : Addr) (m c : Nat) (news : List Value) (hx : a.eval x = .slice (some q) m c) (hl : news.length = m * 2)
    (hn : ∀ j u, news[j]? = some u → w.cell? (q.add j) = some u) (h1 : ∀ u ∈ news, u.oneCell' = true)
    (hb : n + m ≤ 1000000000) (hbase : base ≤ w.heap.size)
    (h : ∀ v' w', w'.ownsRow base 111 2 v' (n + m) (xs ++ news) → w.grownBy w' v.ownBlock → (v'.ownBlock = v.ownBlock ∨ v'.ownBlock = some w.heap.size) → wpList Tryz.prog ops Q rest (a.put o.dst v') w') : wpList Tryz.prog ops Q (o :: rest) a w := by
  obtain ⟨i0, hi, hz0, hz1, hz2⟩ := info_parts info97
  exact wpList_append_own_at w hgd sl x 78 ho base 111 i0 _ 2 32 Tryz.underlying78 hi hz0 hz1 hz2 rfl (by decide) v n xs hs hown q m c news hx hl hn h1 (by unfold maxLen; omega) (by omega) hbase fun v' w' h1 h2 _ h4 => h v' w' h1 h2 h4

/-- The waiting writes come back in new memory. -/
def WaitsBack (l : List (Nat × ByteArray)) (w : World) (e : Ending) (w' : World) : Prop := ∃ p c ow, e = .returned (.slice p l.length c) ∧ Waits w' (.slice p l.length c) ow l ∧ New w w' ∧ ∀ k, ow = some k → w.heap.size ≤ k

theorem WaitCells.one {w : World} {l : List (Nat × ByteArray)} {xs : List Value} (h : WaitCells w l xs) : ∀ u ∈ xs, u.oneCell' = true := by
  intro u hu
  obtain ⟨i, hi, rfl⟩ := List.mem_iff_getElem.1 hu
  have hl := h.1
  obtain ⟨e1, v, e2, e3⟩ := h.2 (i / 2) (by omega)
  rcases Nat.mod_two_eq_zero_or_one i with h0 | h0
  · rw [show i / 2 * 2 = i by omega, List.getElem?_eq_getElem hi] at e1
    injection e1 with e1
    rw [e1]; rfl
  · rw [show i / 2 * 2 + 1 = i by omega, List.getElem?_eq_getElem hi] at e2
    injection e2 with e2
    rw [e2]
    obtain ⟨⟨p, c, e, _⟩, _⟩ := e3
    rw [e]; rfl

set_option maxHeartbeats 800000 in
theorem cloneWaits_any (v : Value) (ow : Option Nat) (l : List (Nat × ByteArray)) (w : World) (h : Waits w v ow l) (hl : l.length ≤ 1000000000) : Calls Tryz.prog 78 #[v] w (WaitsBack l w) := by
  obtain ⟨xs, hx, hc⟩ := h.cells
  obtain ⟨p, c, rfl, _⟩ := waits_slice h
  cases p with
  | none =>
    have hz : l.length = 0 := by
      rcases Nat.eq_zero_or_pos l.length with h | h
      · exact h
      · obtain ⟨g, cap, e, _⟩ := hx.form h
        cases e
    have he : l = [] := List.eq_nil_of_length_eq_zero hz
    subst he
    have hq := fun (w : World) => Lib.run_eql_slice_nil (P := Tryz.prog) w 78 111 none 0 c 0 0 Tryz.underlying78
    clear h hx hc
    go_enter Tryz.func78, Tryz.ntmps78
    go_wp2
    go_ret
    exact ⟨none, 0, none, rfl, ⟨⟨[], ⟨rfl, .inl ⟨rfl, rfl⟩⟩, fun i h => absurd h (Nat.not_lt_zero _)⟩, rfl⟩, New.refl w, fun k hk => by cases hk⟩
  | some q =>
    obtain ⟨g0, rfl⟩ : ∃ g0, q = ⟨g0, 0, none⟩ := by
      rcases hx.2 with ⟨e, _⟩ | ⟨g, cap, cur, e, _⟩
      · cases e
      · injection e with e _ _; injection e with e; exact ⟨g, e⟩
    have hq := fun (w : World) => Lib.run_eql_slice_nil (P := Tryz.prog) w 78 111 (some ⟨g0, 0, none⟩) l.length c 0 0 Tryz.underlying78
    have HX := hid (own_old hx ((New.refl w).alloc #[] 111))
    have HC := hid hc
    have HL := hid hl
    clear h hx hc hl
    go_enter Tryz.func78, Tryz.ntmps78
    go_wp2_with (at_builtin; refine app_waits rfl _ _ rfl w.heap.size _ 0 [] rfl (World.ownsRow_lit w #[] 0 (Nat.le_refl _) (by decide) rfl) ⟨g0, 0, none⟩ l.length c xs rfl HC.out.1 ?c0 HC.out.one ?c1 ?c2 ?_)
    case c0 => exact HX.out.cells rfl
    case c1 => have := HL.out; omega
    case c2 => simp
    intro v' w' hown hg hblk
    obtain ⟨A, k, rfl⟩ : ∃ A k, v' = .slice A l.length k := by
      rcases hown.2 with ⟨rfl, e⟩ | ⟨g, cap, cur, rfl, _⟩
      · exact ⟨_, _, by rw [e]⟩
      · exact ⟨_, _, rfl⟩
    have hnew : New w w' := ((New.refl w).alloc #[] 111).grown hg (by simp) (by simp [Value.ownBlock])
    have HO := hid hown
    clear hown
    go_wp2
    go_ret
    exact ⟨A, k, _, rfl, ⟨⟨xs, (by simpa using HO.out.mono (Nat.zero_le _)), (HC.out.turn (Turn.of_new (S := fun _ => False) hnew) (apart_none w)).2⟩, rfl⟩, hnew, fun k hk => (HO.out.lt k hk).1⟩

end Go.Proofs.YtdccbceaajnajaaGreat

namespace Go.Proofs.YtdccbceaajnajaaGreat
open Go.RowKit
set_option linter.unusedSimpArgs false
set_option linter.unusedVariables false

theorem size69 : (Tryz.prog.info? 80).map (·.size) = some 3126 := by kernel_rfl
theorem zeros69 : Tryz.zeroCells80.size = 3126 := by kernel_rfl
theorem Content.oneCell {w : World} {v : Value} {s : ByteArray} (h : Content w v s) : v.oneCell' = true := by
  obtain ⟨⟨p, c, rfl, _⟩, _⟩ := h; rfl
theorem DiskIs.one {w : World} {f : Nat → Value} {ow : Option Nat} {A : ADisk} (h : DiskIs w f ow A) (i : Nat) (hi : i < 3126) : (f i).oneCell' = true := by
  rcases Nat.lt_or_ge i 1 with h1 | h1
  · rw [show i = 0 by omega, h.made]; rfl
  rcases Nat.lt_or_ge i 3121 with h2 | h2
  · have := (h.safe (i - 1) (by omega)).oneCell
    rwa [show 1 + (i - 1) = i by omega] at this
  rcases Nat.lt_or_ge i 3122 with h3 | h3
  · obtain ⟨p, c, e, _⟩ := waits_slice h.waits
    rw [show i = 3121 by omega, e]; rfl
  rcases Nat.lt_or_ge i 3123 with h4 | h4
  · rw [show i = 3122 by omega, h.down]; rfl
  rcases Nat.lt_or_ge i 3124 with h5 | h5
  · rw [show i = 3123 by omega, h.armed]; rfl
  rcases Nat.lt_or_ge i 3125 with h6 | h6
  · rw [show i = 3124 by omega, h.acts]; rfl
  · rw [show i = 3125 by omega, h.falls]; rfl

theorem DiskIs.rewait {w : World} {g : Nat} {f : Nat → Value} {ow ow2 : Option Nat} {A : ADisk} {v : Value} (hr : Raw w g 80 3126 f) (hi : DiskIs w f ow A) (hne : ∀ k, ow = some k → ¬ k = g) (hw : Waits w v ow2 A.waits) :
    DiskIs (w.setCell ⟨g, 3121, none⟩ v) (upd f 3121 v) ow2 A := by
  have ht : Turn (· = g) w (w.setCell ⟨g, 3121, none⟩ v) := Turn.setCell (S := (· = g)) (p := ⟨g, 3121, none⟩) (Turn.refl _ w) rfl _
  have hap := apart_disk hr
  have d := hi.turn ht hap hne
  constructor
  case made => rw [upd_other _ _ (by decide)]; exact d.made
  case safe => exact fun i h => by rw [upd_other _ _ (by omega)]; exact d.safe i h
  case waits => rw [upd_same]; exact hw.turn ht hap (waits_ne hr hw)
  case down => rw [upd_other _ _ (by decide)]; exact d.down
  case armed => rw [upd_other _ _ (by decide)]; exact d.armed
  case acts => rw [upd_other _ _ (by decide)]; exact d.acts
  case falls => rw [upd_other _ _ (by decide)]; exact d.falls
  case inside => exact d.inside
  case armed0 => exact d.armed0
  case acts0 => exact d.acts0
  case falls0 => exact d.falls0

/-- A new disk that has the same. -/
def CopyBack (A : ADisk) (w : World) (e : Ending) (w' : World) : Prop := ∃ b' ow', e = .returned (.pointer (some ⟨b', 0, none⟩)) ∧ Mine' w w' b' ow' A
  where Mine' (w a : World) (b : Nat) (ow : Option Nat) (A : ADisk) : Prop := DiskAt a b ow A ∧ New w a ∧ w.heap.size ≤ b ∧ ∀ k, ow = some k → w.heap.size ≤ k

set_option maxHeartbeats 2000000 in
set_option maxRecDepth 100000 in
theorem copy_any (b : Nat) (ow : Option Nat) (A : ADisk) (w : World) (h : DiskAt w b ow A) (hb3 : A.waits.length ≤ 1000000000) : Calls Tryz.prog 47 #[.pointer (some ⟨b, 0, none⟩)] w (CopyBack A w) := by
  obtain ⟨f, ⟨cs, hg, hsz, hcs⟩, hd⟩ := h
  have hr : Raw w b 80 3126 f := ⟨cs, hg, hsz, hcs⟩
  have c0 := hr.cell 0 (by omega)
  rw [hd.made] at c0
  have c1 := hr.cell 3121 (by omega)
  obtain ⟨q, k, ew, _⟩ := waits_slice hd.waits
  rw [ew] at c1
  have hlt := hr.lt
  have h1 : cs.all (·.oneCell') = true := by
    rw [Array.all_eq_true]
    intro i hi
    have e := hcs i (by omega)
    rw [Array.getElem?_eq_getElem hi] at e
    injection e with e
    rw [e]; exact hd.one i (by omega)
  have HG := hid hg
  have HR := hid hr
  have HD := hid hd
  have H1 := hid h1
  have HS := hid (show (Tryz.prog.info? 80).map (·.size) = some cs.size by rw [hsz]; exact size69)
  have HZ := hid (show Tryz.zeroCells80.size = cs.size by rw [hsz]; exact zeros69)
  have HE := hid ew
  have HB := hid hb3
  have HSZ := hid hsz
  have HCS := hid hcs
  clear hg hr hd h1 hsz hcs ew hb3
  go_enter Tryz.func47, Tryz.ntmps47
  go_wp2_with fail
  refine (none_no b w c0).mono ?_
  rintro e w' ⟨rfl, rfl⟩
  go_wp2_with (first
    | (with_reducible refine wpList_load_row rfl 80 _ rfl b rfl 80 cs (0, 0) _ HG.out Tryz.underlying80 rfl HS.out ?_)
    | (with_reducible refine wpList_store_row rfl 80 _ _ rfl w.heap.size cs rfl rfl 80 Tryz.zeroCells80 (World.alloc_heap_new w _) HS.out HZ.out H1.out ?_; rw [World.setRow_alloc_new]))
  have hn1 : New w (w.alloc (.cells cs 80)) := (New.refl w).alloc _ _
  have HW := HD.out.waits.turn (Turn.of_new (S := fun _ => False) hn1) (apart_none w) (fun _ _ h => h)
  rw [HE.out] at HW
  refine (cloneWaits_any _ ow A.waits _ HW HB.out).mono ?_
  rintro e w2 ⟨p2, k2, ow2, rfl, hw2, hn2, ho2⟩
  have hr1 : Raw (w.alloc (.cells cs 80)) w.heap.size 80 3126 f := ⟨cs, World.alloc_heap_new w _, HSZ.out, HCS.out⟩
  have hr2 : Raw w2 w.heap.size 80 3126 f := hr1.turn (Turn.of_new (S := fun _ => False) hn2) (fun h => h)
  have hi2 := HD.out.turn (Turn.of_new (S := fun _ => False) (hn1.trans hn2)) (apart_none w) (fun _ _ h => h)
  have c2 := hr2.cell 3121 (by omega)
  have z2 := hr2.frozen 3121
  have HI2 := hid hi2
  have HR2 := hid hr2
  have HW2 := hid hw2
  have HO2 := hid ho2
  have hlo : ∀ k, ow = some k → ¬ k = w.heap.size := fun k hk => by
    obtain ⟨xs, hx, _⟩ := HD.out.waits.cells
    have := (hx.lt k (by rw [HD.out.waits.blk]; exact hk)).2
    omega
  have HLO := hid hlo
  clear hr1 hr2 hi2 hw2 ho2 HW hlo
  go_wp2
  go_ret
  refine ⟨w.heap.size, ow2, rfl, ⟨_, HR2.out.set 3121 _, HI2.out.rewait HR2.out HLO.out HW2.out⟩, ?_, Nat.le_refl _, fun k hk => Nat.le_trans hn1.size (HO2.out k hk)⟩
  exact (hn1.trans hn2).turn (Turn.setCell (S := (· = w.heap.size)) (p := ⟨w.heap.size, 3121, none⟩) (Turn.refl _ w2) rfl _) (fun k hk hs => by omega)

end Go.Proofs.YtdccbceaajnajaaGreat

namespace Go.Proofs.YtdccbceaajnajaaGreat
open Go.RowKit

theorem opn_eq {a b : Opn} (h1 : a.unit = b.unit) (h2 : a.next = b.next) (h3 : a.ready.toList = b.ready.toList) : a = b := by
  cases a; cases b; simp only at h1 h2 h3
  rw [h1, h2, str_eq h3]

end Go.Proofs.YtdccbceaajnajaaGreat

namespace Go.Proofs.YtdccbceaajnajaaGreat
open Go.RowKit

theorem rec_ne {r s : Rec} : ¬ (r.kind = s.kind ∧ r.unit = s.unit ∧ r.page = s.page ∧ r.at_ = s.at_ ∧ r.back = s.back ∧ r.next = s.next ∧ r.text.toList = s.text.toList ∧ r.before = s.before ∧ r.after = s.after ∧ r.units = s.units) → decide (r = s) = false := by
  intro h
  rw [decide_eq_false_iff_not]
  rintro rfl
  exact h (by simp)
theorem rec_eq {r s : Rec} (h : r.kind = s.kind ∧ r.unit = s.unit ∧ r.page = s.page ∧ r.at_ = s.at_ ∧ r.back = s.back ∧ r.next = s.next ∧ r.text.toList = s.text.toList ∧ r.before = s.before ∧ r.after = s.after) : decide (r = s) = decide (r.units = s.units) := by
  obtain ⟨h1, h2, h3, h4, h5, h6, h7, h8, h9⟩ := h
  cases r; cases s
  simp only at *
  have h7 := str_eq h7
  subst h1 h2 h3 h4 h5 h6 h7 h8 h9
  simp
theorem new2 (w : World) (c d : Array Value) (t u : TypeId) : New w ((w.alloc (.cells c t)).alloc (.cells d u)) := ((Below.refl _ _).alloc (Nat.le_refl _) _).alloc (by simp) _

end Go.Proofs.YtdccbceaajnajaaGreat

namespace Go.Proofs.YtdccbceaajnajaaGreat
open Go.RowKit

end Go.Proofs.YtdccbceaajnajaaGreat

namespace Go.Proofs.YtdccbceaajnajaaGreat
open Go.RowKit
set_option linter.unusedSimpArgs false
set_option linter.unusedVariables false

theorem TapeAt.marked {w : World} {tb b : Nat} {ot : Option Nat} {T : ATape} (h : TapeAt w tb ot b T) (n : Nat) :
    TapeAt ((w.setCell ⟨tb, 3, none⟩ (.bool false)).setCell ⟨tb, 2, none⟩ (.int .i64 (n : Int))) tb ot b { T with forced := n, late := false } ∧ Turn (· = tb) w ((w.setCell ⟨tb, 3, none⟩ (.bool false)).setCell ⟨tb, 2, none⟩ (.int .i64 (n : Int))) := by
  obtain ⟨v, e1, e2, xs, e3, e4⟩ := h
  have s1 := turn_set w tb 3 (.bool false)
  have s2 := s1.trans (turn_set _ tb 2 (.int .i64 (n : Int)))
  have b5 : Apart (· = tb) w := apart_of e1 (by decide)
  have b90 : Apart90 (· = tb) w := fun k c fr hk hh => by subst hk; exact type_ne e1 hh (by decide) rfl
  exact ⟨⟨v, heap_setCell_same _ tb 2 _ 87 _ (heap_setCell_same w tb 3 _ 87 _ e1), e2, xs, own_turn e3 s2 (fun k hk e => own_ne e3 e1 (by decide) (e ▸ hk)), e4.imp fun r _ _ _ hr => hr.turn s2 b5 b90⟩, s2⟩
theorem Log.marked {w0 w : World} {b tb : Nat} {ow ot : Option Nat} {A : ADisk} {T : ATape} (h : Log w0 w b ow tb ot A T) (n : Nat) :
    Log w0 ((w.setCell ⟨tb, 3, none⟩ (.bool false)).setCell ⟨tb, 2, none⟩ (.int .i64 (n : Int))) b ow tb ot A { T with forced := n, late := false } ∧ Turn (· = tb) w ((w.setCell ⟨tb, 3, none⟩ (.bool false)).setCell ⟨tb, 2, none⟩ (.int .i64 (n : Int))) := by
  obtain ⟨h1, h2⟩ := h.tape.marked n
  obtain ⟨v, e1, _⟩ := h.tape
  exact ⟨{ h with disk := disk_keep h.disk h2 (fun k hk => by subst hk; exact ⟨_, _, _, e1, by decide, by decide, by decide⟩), tape := h1, new := Below.trans h.new (h2.below (fun k e => e ▸ h.tt) h.new.size) }, h2⟩

def forceE (A : ADisk) (T : ATape) : Int := if T.late then actE A else 0
def forceA (A : ADisk) (T : ATape) : ADisk := if T.late then flushA A else A
def forceT (A : ADisk) (T : ATape) : ATape := if forceE A T = 0 then { T with forced := T.recs.length, late := false } else T
/-- What Force leaves. -/
def Forced (w0 : World) (b : Nat) (ow : Option Nat) (tb : Nat) (ot : Option Nat) (A : ADisk) (T : ATape) (w : World) (e : Ending) (w' : World) : Prop :=
  ∃ ow', e = .returned (.int .i64 (forceE A T)) ∧ Log w0 w' b ow' tb ot (forceA A T) (forceT A T) ∧ Turn (logs b ow tb ot) w w' ∧ (∀ k, ow' = some k → ow = some k ∨ w.heap.size ≤ k)

set_option maxRecDepth 100000 in
set_option maxHeartbeats 4000000 in
theorem force_any (w0 : World) (b : Nat) (ow : Option Nat) (tb : Nat) (ot : Option Nat) (A : ADisk) (T : ATape) (w : World) (hL : Log w0 w b ow tb ot A T) (hb1 : A.falls ≤ 1000000000) (hb2 : A.acts ≤ 1000000000) (hb3 : A.waits.length ≤ 1000000000) :
    Calls Tryz.prog 33 #[.pointer (some ⟨tb, 0, none⟩)] w (Forced w0 b ow tb ot A T w) := by
  obtain ⟨tp, tc, hc, hf⟩ := tape_cells hL.tape
  have LL := hid hL
  have B1 := hid hb1
  have B2 := hid hb2
  have B3 := hid hb3
  clear hL hb1 hb2 hb3
  cases hl : T.late with
  | false =>
    rw [hl] at hc
    have HL := hid hl
    clear hl
    go_enter Tryz.func33, Tryz.ntmps33
    go_wp2_with fail
    refine (tnone_no tb b _ (hc 0)).mono ?_
    rintro e w' ⟨rfl, rfl⟩
    go_wp2
    go_ret
    have hm := LL.out.marked T.recs.length
    have e1 : forceE A T = 0 := by simp [forceE, HL.out]
    refine ⟨ow, (by rw [e1]; rfl), ?_, hm.2.mono (fun k _ e => Or.inr (Or.inl e)), fun k h => .inl h⟩
    rw [show forceA A T = A by simp [forceA, HL.out], show forceT A T = { T with forced := T.recs.length, late := false } by simp only [forceT, if_pos e1]]
    exact hm.1
  | true =>
    rw [hl] at hc
    have HL := hid hl
    clear hl
    go_enter Tryz.func33, Tryz.ntmps33
    go_wp2_with fail
    refine (tnone_no tb b _ (hc 0)).mono ?_
    rintro e w' ⟨rfl, rfl⟩
    go_wp2_with fail
    refine (flush_any b ow A _ LL.out.disk B1.out B2.out B3.out).mono ?_
    rintro e w1 hm
    obtain ⟨ow', rfl, hl3, ht3, how⟩ := LL.out.moved hm
    have L1 := hid hl3
    have T1 := hid ht3
    have OW := hid how
    clear hm hl3 ht3 how hc hf
    have eE : forceE A T = actE A := by simp [forceE, HL.out]
    have eA : forceA A T = flushA A := by simp [forceA, HL.out]
    have EE := hid eE
    have EA := hid eA
    clear eE eA
    by_cases ha : actE A = 0
    · obtain ⟨tp, tc, hc, hf⟩ := tape_cells L1.out.tape
      rw [ha]
      have HA := hid ha
      clear ha
      go_wp2
      go_ret
      have hm := L1.out.marked T.recs.length
      refine ⟨ow', (by rw [EE.out, HA.out]; rfl), ?_, (T1.out.mono (fun k _ e => Or.inl e)).trans (hm.2.mono (fun k _ e => Or.inr (Or.inl e))), OW.out⟩
      rw [EA.out, show forceT A T = { T with forced := T.recs.length, late := false } by simp only [forceT, if_pos (EE.out.trans HA.out)]]
      exact hm.1
    · have q1 : (actE A == 0) = false := by simpa using ha
      have q2 : (actE A != 0) = true := by simpa using ha
      have HA := hid ha
      clear ha
      go_wp2
      go_ret
      have q3 : ¬ forceE A T = 0 := by rw [EE.out]; exact HA.out
      refine ⟨ow', (by rw [EE.out]; rfl), ?_, T1.out.mono (fun k _ e => Or.inl e), OW.out⟩
      rw [EA.out, show forceT A T = T by simp only [forceT, if_neg q3]]
      exact L1.out

/-- A record of a row of one's own. -/
theorem rec_row {w : World} {base g cap n : Nat} {xs : List Value} {l : List Rec} {P : Rec → Value → Value → Value → Prop} (hown : w.ownsRow base 70 10 (.slice (some ⟨g, 0, none⟩) n cap) n xs) (hc : RecCells P l xs) (hn : n = l.length) {i : Nat} (hi : i < l.length) :
    ∃ bv av uv, P l[i] bv av uv ∧ ∀ j, j < 10 → w.cell? ⟨g, i * 10 + j, none⟩ = (recCells l[i] bv av uv)[j]? := by
  obtain ⟨bv, av, uv, h1, h2⟩ := hc.2 i hi
  exact ⟨bv, av, uv, h1, fun j hj => by rw [hown.cellAt (i * 10 + j) (by omega)]; exact h2 j hj⟩
theorem rec_ten {w : World} {g o : Nat} {r : Rec} {bv av uv : Value} (h : ∀ j, j < 10 → w.cell? ⟨g, o + j, none⟩ = (recCells r bv av uv)[j]?) :
    w.cell? ⟨g, o, none⟩ = some (.int .i64 r.kind) ∧ w.cell? ⟨g, o + 1, none⟩ = some (.int .i64 r.unit) ∧ w.cell? ⟨g, o + 2, none⟩ = some (.int .i64 r.page) ∧ w.cell? ⟨g, o + 3, none⟩ = some (.int .i64 r.at_) ∧ w.cell? ⟨g, o + 4, none⟩ = some bv ∧
    w.cell? ⟨g, o + 5, none⟩ = some av ∧ w.cell? ⟨g, o + 6, none⟩ = some (.int .i64 r.back) ∧ w.cell? ⟨g, o + 7, none⟩ = some (.int .i64 r.next) ∧ w.cell? ⟨g, o + 8, none⟩ = some (.string r.text) ∧ w.cell? ⟨g, o + 9, none⟩ = some uv :=
  ⟨h 0 (by omega), h 1 (by omega), h 2 (by omega), h 3 (by omega), h 4 (by omega), h 5 (by omega), h 6 (by omega), h 7 (by omega), h 8 (by omega), h 9 (by omega)⟩
/-- A record that comes back beside an error. -/
def RecBackE (r : Rec) (er : Int) (w : World) (e : Ending) (w' : World) : Prop := ∃ bv av uv, e = .returned (.tuple #[.agg (recCells r bv av uv), .int .i64 er]) ∧ RecIn w' r bv av uv ∧ New w w'

end Go.Proofs.YtdccbceaajnajaaGreat

namespace Go.Proofs.YtdccbceaajnajaaGreat
open Go.RowKit
set_option linter.unusedSimpArgs false
set_option linter.unusedVariables false

/-- Records that come back in new memory. -/
def RecsBack (l : List Rec) (w : World) (e : Ending) (w' : World) : Prop := ∃ v xs, e = .returned v ∧ w'.ownsRow w.heap.size 70 10 v l.length xs ∧ RecCells (RecIn w') l xs ∧ New w w'
/-- The row while it grows. -/
structure Rows (w wr : World) (v : Value) (l : List Rec) : Prop where
  row : ∃ xs, wr.ownsRow w.heap.size 70 10 v l.length xs ∧ RecCells (RecIn wr) l xs
  new : New w wr
theorem Rows.grow {w wr w1 w2 : World} {v v' : Value} {l : List Rec} {xs : List Value} (hown : wr.ownsRow w.heap.size 70 10 v l.length xs) (hc : RecCells (RecIn wr) l xs) (hw : New w wr) (hn : New wr w1) {r : Rec} {bv av uv : Value} (hr : RecIn w1 r bv av uv)
    (hown2 : w2.ownsRow w.heap.size 70 10 v' (l.length + 1) (xs ++ (recCells r bv av uv).toList)) (hg : w1.grownBy w2 v.ownBlock) : Rows w w2 v' (l ++ [r]) := by
  have hown1 := own_old hown hn
  have ht : Turn (fun k => v.ownBlock = some k) w1 w2 := Turn.grown (Turn.refl _ w1) hg (fun k _ e => e)
  have a5 := apart_own hown1 (show (70 : TypeId) ≠ 5 by decide)
  have a90 : Apart90 (fun k => v.ownBlock = some k) w1 := fun k c fr hk hh => own_ne hown1 hh (by decide) hk
  refine ⟨⟨_, by rw [List.length_append]; exact hown2, ((hc.imp fun r' _ _ _ h => (h.new hn)).snoc hr).imp fun r' _ _ _ h => h.turn ht a5 a90⟩, ?_⟩
  exact Below.trans (hw.trans hn) (ht.below (fun k e => own_from hown1 k e) (hw.trans hn).size)

end Go.Proofs.YtdccbceaajnajaaGreat

namespace Go.Proofs.YtdccbceaajnajaaGreat
open Go.RowKit
set_option linter.unusedSimpArgs false
set_option linter.unusedVariables false

/-- A list of records that lies in memory. -/
def Recs (w : World) (v : Value) (l : List Rec) : Prop :=
  ∃ p c, v = .slice p l.length c ∧ l.length ≤ c ∧ c ≤ maxLen ∧ (0 < l.length → ∃ b o, p = some ⟨b, o, none⟩ ∧ b < w.heap.size ∧ ∀ i (h : i < l.length), ∃ bv av uv, RecAt w l[i] bv av uv ∧ ∀ j, j < 10 → w.cell? ⟨b, o + i * 10 + j, none⟩ = (recCells l[i] bv av uv)[j]?)
theorem Recs.new {w w' : World} {v : Value} {l : List Rec} (h : Recs w v l) (hn : New w w') : Recs w' v l := by
  obtain ⟨p, c, e, h1, h2, h3⟩ := h
  refine ⟨p, c, e, h1, h2, fun h0 => ?_⟩
  obtain ⟨b, o, e2, hb, hx⟩ := h3 h0
  refine ⟨b, o, e2, Nat.lt_of_lt_of_le hb hn.size, fun i hi => ?_⟩
  obtain ⟨bv, av, uv, hr, hc⟩ := hx i hi
  exact ⟨bv, av, uv, hr.new hn, fun j hj => by rw [hn.cell _ _ hb]; exact hc j hj⟩
theorem Recs.row {w : World} {base : Nat} {v : Value} {l : List Rec} {xs : List Value} (h : w.ownsRow base 70 10 v l.length xs) (hc : RecCells (RecAt w) l xs) : Recs w v l := by
  obtain ⟨p, c, rfl, h1, h2, _⟩ := RowAt.owned h
  refine ⟨p, c, rfl, h1, h2, fun h0 => ?_⟩
  obtain ⟨g, cap, e, -, hg⟩ := h.form h0
  injection e with e1 _ e3
  subst e1 e3
  refine ⟨g, 0, rfl, hg, fun i hi => ?_⟩
  obtain ⟨bv, av, uv, hr, hj⟩ := rec_row h hc rfl hi
  exact ⟨bv, av, uv, hr, fun j hj' => by rw [Nat.zero_add]; exact hj j hj'⟩
theorem Recs.owned {w : World} {base : Nat} {v : Value} {l : List Rec} {xs : List Value} (h : w.ownsRow base 70 10 v l.length xs) (hc : RecCells (RecIn w) l xs) : Recs w v l := Recs.row h (hc.imp fun r _ _ _ hr => hr.at)
theorem Recs.form {w : World} {v : Value} {l : List Rec} (h : Recs w v l) : ∃ p c, v = .slice p l.length c ∧ l.length ≤ c ∧ c ≤ maxLen := by
  obtain ⟨p, c, e, h1, h2, _⟩ := h
  exact ⟨p, c, e, h1, h2⟩
/-- A record of it. -/
theorem Recs.get {w : World} {p : Option Addr} {n c : Nat} {l : List Rec} (h : Recs w (.slice p n c) l) {k : Nat} (hk : k < l.length) :
    ∃ b o p1 c1 p2 c2 p3 c3, p = some ⟨b, o, none⟩ ∧ b < w.heap.size ∧ RecAt w l[k] (.slice p1 l[k].before.size c1) (.slice p2 l[k].after.size c2) (.slice p3 l[k].units.length c3) ∧
      ∀ j, j < 10 → w.cell? ⟨b, o + k * 10 + j, none⟩ = (recCells l[k] (.slice p1 l[k].before.size c1) (.slice p2 l[k].after.size c2) (.slice p3 l[k].units.length c3))[j]? := by
  obtain ⟨p', c', e, h1, h2, h3⟩ := h
  injection e with e1 e2 e3
  subst e1
  obtain ⟨b, o, rfl, hb, hx⟩ := h3 (by omega)
  obtain ⟨bv, av, uv, hr, hj⟩ := hx k hk
  obtain ⟨⟨p1, c1, rfl, -⟩, ⟨p2, c2, rfl, -⟩, ⟨p3, c3, rfl, -⟩⟩ := id hr
  exact ⟨b, o, p1, c1, p2, c2, p3, c3, rfl, hb, hr, hj⟩
end Go.Proofs.YtdccbceaajnajaaGreat

namespace Go.Proofs.YtdccbceaajnajaaGreat
open Go.RowKit
set_option linter.unusedSimpArgs false
set_option linter.unusedVariables false

/-- Bounds. -/
structure Lim (A : ADisk) (n : Nat) : Prop where
  acts : A.acts ≤ n
  falls : A.falls ≤ n
  waits : A.waits.length ≤ n
  small : Small A
  inside : ∀ p ∈ A.waits, p.1 < 3120
theorem lim_new : Lim newA 0 := ⟨by decide, by decide, by decide, newA_small, fun p hp => by cases hp⟩
theorem Lim.mono {A : ADisk} {n m : Nat} (h : Lim A n) (hm : n ≤ m) : Lim A m := ⟨by have := h.acts; omega, by have := h.falls; omega, by have := h.waits; omega, h.small, h.inside⟩
theorem Lim.act {A : ADisk} {n : Nat} (h : Lim A n) : Lim (actA A) (n + 1) := by
  have a := h.acts
  have f := h.falls
  have w := h.waits
  unfold actA
  split
  · exact h.mono (by omega)
  · split
    · exact ⟨by simp only; omega, by simp only; omega, by simp only; omega, h.small, h.inside⟩
    · exact ⟨by simp only; omega, by simp only; omega, by simp only; omega, h.small, h.inside⟩
theorem Lim.write {A : ADisk} {n : Nat} (h : Lim A n) (m : Int) (s : ByteArray) : Lim (writeA A m s) (n + 1) := by
  unfold writeA
  split
  · exact h.mono (by omega)
  · rename_i hb
    simp only [Bool.or_eq_true, Bool.not_eq_true', decide_eq_true_eq, not_or, Bool.not_eq_false] at hb
    have ha := h.act
    split
    · refine ⟨ha.acts, ha.falls, by have := h.waits; simp only [List.length_append, List.length_cons, List.length_nil]; omega, ⟨ha.small.1, fun p hp => ?_⟩, fun p hp => ?_⟩
      · rcases List.mem_append.1 hp with h1 | h1
        · exact h.small.2 p h1
        · simp at h1; subst h1; simp only; omega
      · rcases List.mem_append.1 hp with h1 | h1
        · exact h.inside p h1
        · simp at h1; subst h1; exact isB_lt hb.1
    · exact ha
theorem Lim.flush {A : ADisk} {n : Nat} (h : Lim A n) : Lim (flushA A) (n + 1) := by
  unfold flushA
  have ha := h.act
  split
  · exact ⟨ha.acts, ha.falls, Nat.zero_le _, ⟨fun i hi => h.small.lay i hi, fun p hp => by cases hp⟩, fun p hp => by cases hp⟩
  · exact ha
theorem Lim.arm {A : ADisk} {n : Nat} (h : Lim A n) (x : Int) : Lim { A with armed := x } n := ⟨h.acts, h.falls, h.waits, h.small, h.inside⟩
theorem Lim.start {A : ADisk} {n : Nat} (h : Lim A n) : Lim { A with down := false, armed := 0 } n := ⟨h.acts, h.falls, h.waits, h.small, h.inside⟩

end Go.Proofs.YtdccbceaajnajaaGreat
