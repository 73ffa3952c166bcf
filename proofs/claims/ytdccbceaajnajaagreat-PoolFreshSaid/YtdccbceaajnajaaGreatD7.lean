/- disk.Disk.Flush at each made disk. slices.Backward over the waiting writes, and disk.Disk.there. -/
import Derived.Test.YtdccbceaajnajaaGreatD4
import Derived.RangeFuncNested
import Derived.RangeFuncBound
import Derived.RangeFuncCalls
import Derived.RangeFuncLeaves
import Derived.Shelf.Abstract
import Derived.OwnWalkIn
import Derived.TacticsInMore
import Derived.LoopNIn
import Derived.LoopIn
import Derived.RegionIn
namespace Go.Proofs.YtdccbceaajnajaaGreat
open Go.RowKit
set_option linter.unusedSimpArgs false
set_option linter.unusedVariables false

/-- A block is laid. -/
def lay1 (s : Nat → ByteArray) (p : Nat × ByteArray) : Nat → ByteArray := fun j => if j = p.1 then p.2 else s j
def layAll (l : List (Nat × ByteArray)) (s : Nat → ByteArray) : Nat → ByteArray := l.foldl lay1 s
theorem layAll_take {l : List (Nat × ByteArray)} {i : Nat} (h : i < l.length) (s : Nat → ByteArray) : layAll (l.take (i + 1)) s = lay1 (layAll (l.take i) s) l[i] := by
  unfold layAll
  rw [List.take_succ_eq_append_getElem h, List.foldl_append]; rfl

/-- A waiting write in memory. -/
theorem Waits.at {w : World} {v : Value} {ow : Option Nat} {l : List (Nat × ByteArray)} (h : Waits w v ow l) {i : Nat} (hi : i < l.length) :
    ∃ g cap u, v = .slice (some ⟨g, 0, none⟩) l.length cap ∧ ow = some g ∧ g < w.heap.size ∧ w.cell? ⟨g, i * 2, none⟩ = some (.int .i64 l[i].1) ∧ w.cell? ⟨g, i * 2 + 1, none⟩ = some u ∧ Content w u l[i].2 := by
  have hb := h.blk
  obtain ⟨xs, hx, h0, hc⟩ := h.cells
  obtain ⟨g, cap, rfl, _, hg⟩ := hx.form (by omega)
  obtain ⟨e1, u, e2, e3⟩ := hc i hi
  exact ⟨g, cap, u, rfl, by rw [← hb]; rfl, hg, by rw [hx.cellAt _ (by omega)]; exact e1, by rw [hx.cellAt _ (by omega)]; exact e2, e3⟩

/-- A block's cell is laid anew. -/
theorem DiskIs.lay {w : World} {b : Nat} {f : Nat → Value} {ow : Option Nat} {A : ADisk} (hr : Raw w b 80 3126 f) (hi : DiskIs w f ow A) {n : Nat} (hn : n < 3120) {u : Value} {s : ByteArray} (hu : Content w u s) :
    DiskIs (w.setCell ⟨b, 1 + n, none⟩ u) (upd f (1 + n) u) ow { A with safe := lay1 A.safe (n, s) } := by
  have ht : Turn (· = b) w (w.setCell ⟨b, 1 + n, none⟩ u) := Turn.setCell (S := (· = b)) (p := ⟨b, 1 + n, none⟩) (Turn.refl _ w) rfl u
  have hap := apart_disk hr
  have g := hi.turn ht hap (waits_ne hr hi.waits)
  constructor
  case made => rw [upd_other _ _ (by omega)]; exact g.made
  case safe =>
    intro i h
    by_cases e : i = n
    · subst e; rw [upd_same]; simpa [lay1] using hu.turn ht hap
    · rw [upd_other _ _ (by omega)]; simpa [lay1, e] using g.safe i h
  case waits => rw [upd_other _ _ (by omega)]; exact g.waits
  case down => rw [upd_other _ _ (by omega)]; exact g.down
  case armed => rw [upd_other _ _ (by omega)]; exact g.armed
  case acts => rw [upd_other _ _ (by omega)]; exact g.acts
  case falls => rw [upd_other _ _ (by omega)]; exact g.falls
  case inside => exact g.inside
  case armed0 => exact g.armed0
  case acts0 => exact g.acts0
  case falls0 => exact g.falls0
/-- Nothing waits any more. -/
theorem DiskIs.drop {w : World} {b : Nat} {f : Nat → Value} {ow : Option Nat} {A : ADisk} (hr : Raw w b 80 3126 f) (hi : DiskIs w f ow A) :
    DiskIs (w.setCell ⟨b, 3121, none⟩ (.slice none 0 0)) (upd f 3121 (.slice none 0 0)) none { A with waits := [] } := by
  have ht : Turn (· = b) w (w.setCell ⟨b, 3121, none⟩ (.slice none 0 0)) := Turn.setCell (S := (· = b)) (p := ⟨b, 3121, none⟩) (Turn.refl _ w) rfl _
  have hap := apart_disk hr
  have g := hi.turn ht hap (waits_ne hr hi.waits)
  constructor
  case made => rw [upd_other _ _ (by omega)]; exact g.made
  case safe => exact fun i h => by rw [upd_other _ _ (by omega)]; exact g.safe i h
  case waits => rw [upd_same]; exact ⟨⟨[], ⟨rfl, .inl ⟨rfl, rfl⟩⟩, fun i h => absurd h (Nat.not_lt_zero _)⟩, rfl⟩
  case down => rw [upd_other _ _ (by omega)]; exact g.down
  case armed => rw [upd_other _ _ (by omega)]; exact g.armed
  case acts => rw [upd_other _ _ (by omega)]; exact g.acts
  case falls => rw [upd_other _ _ (by omega)]; exact g.falls
  case inside => intro p hp; cases hp
  case armed0 => exact g.armed0
  case acts0 => exact g.acts0
  case falls0 => exact g.falls0

def flushA (A : ADisk) : ADisk := if actE A = 0 then { actA A with waits := [], safe := layAll A.waits A.safe } else actA A
theorem actA_safe (A : ADisk) : (actA A).safe = A.safe := by
  unfold actA
  by_cases h : A.down = true
  · simp [h]
  · by_cases h2 : A.armed = 1 <;> simp [h, h2]

set_option maxHeartbeats 2000000 in
theorem flush_down (b : Nat) (ow : Option Nat) (A : ADisk) (w : World) (h : DiskAt w b ow A) (hb : A.falls ≤ 1000000000) (hb2 : A.acts ≤ 1000000000) (ha : actE A ≠ 0) :
    Calls Tryz.prog 45 #[.pointer (some ⟨b, 0, none⟩)] w (DiskMoved b ow (.int .i64 (actE A)) (actA A) w) := by
  have hd0 := h
  obtain ⟨f, hr, hd⟩ := h
  have c0 := hr.cell 0 (by omega)
  rw [hd.made] at c0
  clear hr hd
  have HD := hid hd0
  clear hd0
  go_enter Tryz.func45, Tryz.ntmps45
  go_wp2_with fail
  refine (none_no b w c0).mono ?_
  rintro e w' ⟨rfl, rfl⟩
  go_wp2_with fail
  refine (act_any b ow A _ HD.out hb hb2).mono ?_
  rintro e w1 ⟨rfl, hd1, ht1⟩
  go_wp2
  go_ret
  exact ⟨rfl, ow, hd1, fun _ h => .inl h, ht1.mono (fun k _ h => .inl h)⟩

/-- What holds at the head of a round that lays waiting writes. -/
structure Laying (w1 wr : World) (b : Nat) (ow : Option Nat) (A : ADisk) (s : Nat → ByteArray) (v : Value) : Prop where
  lies : ∃ f, Raw wr b 80 3126 f ∧ DiskIs wr f ow { A with safe := s } ∧ f 3121 = v
  turn : Turn (· = b) w1 wr

theorem Laying.new {w1 wr w2 : World} {b : Nat} {ow : Option Nat} {A : ADisk} {s : Nat → ByteArray} {v : Value} (h : Laying w1 wr b ow A s v) (hn : New wr w2) : Laying w1 w2 b ow A s v := by
  obtain ⟨⟨f, h1, h2, h3⟩, h4⟩ := h
  exact ⟨⟨f, h1.turn (Turn.of_new (S := fun _ => False) hn) (fun h => h), h2.turn (Turn.of_new (S := fun _ => False) hn) (apart_none _) (fun _ _ h => h), h3⟩, h4.trans (Turn.of_new hn)⟩
theorem Laying.next {w1 wr w2 : World} {b : Nat} {ow : Option Nat} {A : ADisk} {s : Nat → ByteArray} {v : Value} (h : Laying w1 wr b ow A s v) (hn : New wr w2) {n : Nat} (hl : n < 3120) {u : Value} {t : ByteArray} (hu : Content w2 u t) :
    Laying w1 (w2.setCell ⟨b, 1 + n, none⟩ u) b ow A (lay1 s (n, t)) v := by
  obtain ⟨⟨f, h1, h2, h3⟩, h4⟩ := h
  have g1 : Raw w2 b 80 3126 f := h1.turn (Turn.of_new (S := fun _ => False) hn) (fun h => h)
  have g2 : DiskIs w2 f ow { A with safe := s } := h2.turn (Turn.of_new (S := fun _ => False) hn) (apart_none _) (fun _ _ h => h)
  refine ⟨⟨_, g1.set (1 + n) u, g2.lay g1 hl hu, by rw [upd_other _ _ (by omega)]; exact h3⟩, ?_⟩
  exact (h4.trans (Turn.of_new hn)).trans (Turn.setCell (S := (· = b)) (p := ⟨b, 1 + n, none⟩) (Turn.refl _ w2) rfl u)

set_option maxHeartbeats 4000000 in
set_option maxRecDepth 100000 in
theorem flush_yes (b : Nat) (ow : Option Nat) (A : ADisk) (w : World) (h : DiskAt w b ow A) (hb : A.falls ≤ 1000000000) (hb2 : A.acts ≤ 1000000000) (hb3 : A.waits.length ≤ 1000000000) (ha : actE A = 0) :
    Calls Tryz.prog 45 #[.pointer (some ⟨b, 0, none⟩)] w (DiskMoved b ow (.int .i64 0) (flushA A) w) := by
  have hd0 := h
  obtain ⟨f, hr, hd⟩ := h
  have c0 := hr.cell 0 (by omega)
  rw [hd.made] at c0
  clear hr hd
  have HD := hid hd0
  clear hd0
  have HA := hid ha
  clear ha
  go_enter Tryz.func45, Tryz.ntmps45
  go_wp2_with fail
  refine (none_no b w c0).mono ?_
  rintro e w' ⟨rfl, rfl⟩
  go_wp2_with fail
  refine (act_any b ow A _ HD.out hb hb2).mono ?_
  rintro e w1 ⟨rfl, hd1, ht1⟩
  rw [HA.out]
  obtain ⟨f1, hr1, hi1⟩ := hd1
  have c1 := hr1.cell 3121 (by omega)
  obtain ⟨q, k, ew, _⟩ := waits_slice hi1.waits
  have hlt := hr1.lt
  have hle : (actA A).waits.length ≤ 1000000000 := by rw [actA_waits]; exact hb3
  rw [ew] at c1
  have HS : Hid (Laying w1 w1 b ow (actA A) (layAll ((actA A).waits.take 0) (actA A).safe) (.slice q (actA A).waits.length k)) := hid ⟨⟨f1, hr1, hi1, ew⟩, Turn.refl _ _⟩
  clear hr1 hi1 ew
  generalize hB : actA A = B at *
  have HB := hid hB
  clear hB
  go_wp2
  go_loopw [18] (fun i wr => ∃ j : Nat, j ≤ B.waits.length ∧ i = .int .i64 j ∧ Hid (Laying w1 wr b ow B (layAll (B.waits.take j) B.safe) (.slice q B.waits.length k))) (fun i _ => B.waits.length - (intOf i).toNat)
  case atStart => exact ⟨0, Nat.zero_le _, rfl, HS⟩
  case round =>
    obtain ⟨j, hj, rfl, hL⟩ := hrel
    by_cases hlt : j < B.waits.length
    · obtain ⟨⟨f2, hr2, hi2, e2⟩, ht2⟩ := hL.out
      obtain ⟨g, cap, u, e3, eo, hg, d0, d1, hu⟩ := hi2.waits.at hlt
      obtain ⟨p, cu, eu⟩ : ∃ p cu, u = .slice p B.waits[j].2.size cu := by obtain ⟨p, c, e, _⟩ := hu.1; exact ⟨p, c, e⟩
      rw [e2] at e3
      injection e3 with e3 _ e4
      subst e3 e4 eu
      have hin := hi2.inside _ (List.getElem_mem hlt)
      have cb := hr2.cell (1 + B.waits[j].1) (by omega)
      have zb := hr2.frozen (1 + B.waits[j].1)
      have hbl := hr2.lt
      have HR := hid hr2
      have HI := hid hi2
      have HN := hid ((Laying.next hL.out (New.refl wr) hin hu).new ((New.refl _).alloc #[.int .i64 B.waits[j].1, .slice p B.waits[j].2.size cu] 111).drew)
      have HE := hid e2
      have HIN := hid hin
      have HTK := hid (layAll_take hlt B.safe)
      clear hr2 hi2 hu e2 hL HS
      go_wp2
      go_region
      all_goals
        go_wp2
        go_roundw
        case rel =>
          refine ⟨j + 1, by omega, by go_num, hid ?_⟩
          rw [HTK.out]
          exact HN.out
        case measure => simp [intOf]; omega
    · have : j = B.waits.length := by omega
      subst this
      obtain ⟨⟨f2, hr2, hi2, e2⟩, ht2⟩ := hL.out
      have c2 := hr2.cell 3121 (by omega)
      rw [e2] at c2
      have z2 := hr2.frozen 3121
      have HR := hid hr2
      have HI := hid hi2
      have HT := hid ht2
      clear hr2 hi2 ht2 e2 hL HS
      go_wp2
      go_ret
      have hd2 := HI.out.drop HR.out
      have ht3 := Turn.setCell (S := (· = b)) (p := ⟨b, 3121, none⟩) HT.out rfl (.slice none 0 0)
      rw [List.take_length, ← HB.out, actA_safe, actA_waits] at hd2
      refine ⟨rfl, none, ⟨_, HR.out.set 3121 _, ?_⟩, fun k h => (by cases h), (ht1.trans ht3).mono (fun k _ h => .inl h)⟩
      · simp only [flushA, HA.out, if_true]
        exact hd2

def flushE (A : ADisk) : Int := actE A
theorem flush_any (b : Nat) (ow : Option Nat) (A : ADisk) (w : World) (h : DiskAt w b ow A) (hb : A.falls ≤ 1000000000) (hb2 : A.acts ≤ 1000000000) (hb3 : A.waits.length ≤ 1000000000) :
    Calls Tryz.prog 45 #[.pointer (some ⟨b, 0, none⟩)] w (DiskMoved b ow (.int .i64 (actE A)) (flushA A) w) := by
  by_cases ha : actE A = 0
  · rw [ha]; exact flush_yes b ow A w h hb hb2 hb3 ha
  · rw [show flushA A = actA A by simp [flushA, ha]]; exact flush_down b ow A w h hb hb2 ha

end Go.Proofs.YtdccbceaajnajaaGreat

namespace Go.Proofs.YtdccbceaajnajaaGreat
open Go.RowKit Go.Shelf
set_option linter.unusedSimpArgs false
set_option linter.unusedVariables false
attribute [local go_sem] Oper.semAt_some

/-- What the cells of a row of waiting writes say. -/
structure Cells where
  num : Nat → Int
  ptr : Nat → Option Addr
  siz : Nat → Nat
  cap : Nat → Nat
def Cells.bytes (c : Cells) (j : Nat) : Value := .slice (c.ptr j) (c.siz j) (c.cap j)
def Cells.enc (c : Cells) (j : Nat) : Array Value := #[.int .i64 (j : Int), .agg #[.int .i64 (c.num j), .slice (c.ptr j) (c.siz j) (c.cap j)]]
/-- What has come behind k rounds, from the last one back. -/
def backTo (len k : Nat) : List Nat := (List.range k).map fun i => len - 1 - i
theorem backTo_succ (len k : Nat) : backTo len (k + 1) = backTo len k ++ [len - 1 - k] := by simp [backTo, List.range_succ]
theorem backTo_length (len k : Nat) : (backTo len k).length = k := by simp [backTo]

theorem mem_backTo_of {len k i : Nat} (h : len - 1 - k < i) (hi : i < len) : i ∈ backTo len k := by
  simp only [backTo, List.mem_map, List.mem_range]
  exact ⟨len - 1 - i, by omega, by omega⟩
theorem mem_backTo {len i : Nat} (hi : i < len) : i ∈ backTo len len := by
  simp only [backTo, List.mem_map, List.mem_range]
  exact ⟨len - 1 - i, by omega, by omega⟩

set_option maxRecDepth 100000 in
set_option maxHeartbeats 2000000 in
theorem back_in (F : Fence) (n : Nat) (hF : F.fn 107) (hro : F.round = none) (hn : 1 ≤ n) (l Bs n₀ g len cap : Nat) (q : Option Addr) (hq : 0 < len → q = some ⟨g, 0, none⟩) (c : Cells) (hlen : len ≤ 1000000000) (hg : g < n₀) (hBn : Bs < n₀) (J Jx : List Nat → World → Prop)
    (hY : ∀ pre x W, J pre W → pre.length < len → YieldAt F (n - 1) Tryz.prog l (c.enc x) W fun e W' =>
      (e = .returned (.bool true) ∧ J (pre ++ [x]) W' ∧ Below n₀ W W') ∨ (e = .returned (.bool false) ∧ Jx (pre ++ [x]) W'))
    (W : World) (hBs : W.cell? ⟨Bs, 0, none⟩ = some (.slice q len cap)) (hc : ∀ j, j < len → W.cell? ⟨g, j * 2, none⟩ = some (.int .i64 (c.num j)) ∧ W.cell? ⟨g, j * 2 + 1, none⟩ = some (.slice (c.ptr j) (c.siz j) (c.cap j))) (h0 : J [] W) :
    CallsIn F n Tryz.prog 107 #[.func (.yield l) #[] #[], .pointer (some ⟨Bs, 0, none⟩)] W fun e W' => (∃ v, e = .returned v) ∧
      ((∃ ys, ys = backTo len len ∧ J ys W') ∨ (∃ pre, (∃ k, k ≤ len ∧ pre = backTo len k) ∧ Jx pre W')) := by
  refine callsIn_of_wp Tryz.func107 rfl hF ?_ hro
  simp only [Tryz.ntmps107, List.size_toArray, List.length_cons, List.length_nil, Nat.reduceAdd, Nat.reduceSub, Array.replicate_succ, Array.replicate_zero, List.push_toArray, List.append_toArray, List.nil_append, List.cons_append]
  gi_wp2
  gi_loopw [3] (fun i wr => ∃ (m : Nat) (z : Int), m ≤ len ∧ i = .int .i64 z ∧ z = (m : Int) - 1 ∧ J (backTo len (len - m)) wr ∧ Below n₀ W wr)
    (fun i _ => (intOf i + 1).toNat)
  case atStart => exact ⟨len, (len : Int) - 1, Nat.le_refl _, by simp, rfl, by rw [Nat.sub_self]; exact h0, Below.refl _ _⟩
  case round =>
    obtain ⟨m, z, hm, rfl, hz, hJs, hnx⟩ := hrel
    have cB : wr.cell? ⟨Bs, 0, none⟩ = some (.slice q len cap) := (hnx.cell (p := ⟨Bs, 0, none⟩) hBn).trans hBs
    cases m with
    | zero =>
      obtain rfl : z = -1 := by omega
      clear hz
      gi_wp2
      go_end0
      exact ⟨⟨_, rfl⟩, .inl ⟨_, rfl, by simpa using hJs⟩⟩
    | succ j =>
      obtain rfl : z = (j : Int) := by omega
      clear hz
      obtain rfl := hq (by omega)
      obtain ⟨d0, d1⟩ := hc j (by omega)
      have d0' := (hnx.cell (p := ⟨g, j * 2, none⟩) hg).trans d0
      have d1' := (hnx.cell (p := ⟨g, j * 2 + 1, none⟩) hg).trans d1
      have hstep : backTo len (len - j) = backTo len (len - (j + 1)) ++ [j] := by
        rw [show len - j = len - (j + 1) + 1 by omega, backTo_succ, show len - 1 - (len - (j + 1)) = j by omega]
      obtain ⟨fn, tmps, assign, body, hy, hR⟩ := hY _ j wr hJs (by rw [backTo_length]; omega)
      dsimp only [Cells.enc] at hy
      have HST := hid hstep
      have HC := hid hc
      clear hstep hc
      gi_wp2
      refine hR.mono ?_
      rintro e W3 (⟨rfl, hJ3, hk3⟩ | ⟨rfl, hJx3⟩)
      · gi_wp2
        go_roundw
        case rel => exact ⟨j, (j : Int) - 1, by omega, rfl, rfl, by rw [HST.out]; exact hJ3, hnx.trans hk3⟩
        case measure => simp [intOf]
      · gi_wp2
        refine bodyPost_ret (results_none rfl _ _ _) rfl ?_
        exact ⟨⟨_, rfl⟩, .inr ⟨_, ⟨len - j, by omega, HST.out.symm⟩, hJx3⟩⟩

set_option maxHeartbeats 1000000 in
theorem backward_in (F : Fence) (n : Nat) (hF : F.fn 73) (hro : F.round = none) (a : Option Addr) (len cap : Nat) (w : World) :
    CallsIn F n Tryz.prog 73 #[.slice a len cap] w fun e w' => e = .returned (.func (.func 107) #[] #[.pointer (some ⟨w.heap.size, 0, none⟩)]) ∧ w' = w.alloc (.cells #[.slice a len cap] 78) := by
  refine callsIn_of_wp Tryz.func73 rfl hF ?_ hro
  simp only [Tryz.ntmps73, List.size_toArray, List.length_cons, List.length_nil, Nat.reduceAdd, Nat.reduceSub, Array.replicate_succ, Array.replicate_zero, List.push_toArray, List.append_toArray, List.nil_append, List.cons_append]
  gi_wp2
  go_ret
  exact ⟨rfl, rfl⟩

theorem back_stops (F : Fence) (n : Nat) (hF : F.fn 107) (hro : F.round = none) (hn : 1 ≤ n) (Bs n₀ g len cap : Nat) (q : Option Addr) (hq : 0 < len → q = some ⟨g, 0, none⟩) (c : Cells) (hlen : len ≤ 1000000000) (hg : g < n₀) (hBn : Bs < n₀) (w : World) (hn₀ : n₀ ≤ w.heap.size)
    (hBs : w.cell? ⟨Bs, 0, none⟩ = some (.slice q len cap)) (hc : ∀ j, j < len → w.cell? ⟨g, j * 2, none⟩ = some (.int .i64 (c.num j)) ∧ w.cell? ⟨g, j * 2 + 1, none⟩ = some (.slice (c.ptr j) (c.siz j) (c.cap j))) :
    SeqStopsK F n Tryz.prog 107 #[.pointer (some ⟨Bs, 0, none⟩)] c.enc (Below n₀) (fun ys => ys = backTo len len) (fun pre => ∃ k, k ≤ len ∧ pre = backTo len k) len w := fun l J Jx W hW _ _ hY h0 => by
  refine back_in F n hF hro hn l Bs n₀ g len cap q hq c hlen hg hBn J Jx hY W ((hW.cell (p := ⟨Bs, 0, none⟩) (by show Bs < _; omega)).trans hBs) (fun j hj => ?_) h0
  exact ⟨(hW.cell (p := ⟨g, j * 2, none⟩) (by show g < _; omega)).trans (hc j hj).1, (hW.cell (p := ⟨g, j * 2 + 1, none⟩) (by show g < _; omega)).trans (hc j hj).2⟩

/-- A waiting write in a variable of its own. -/
def Box2 (c : Cells) (B j : Nat) (W : World) : Prop := W.heap[B]? = some (.cells #[.int .i64 (c.num j), .slice (c.ptr j) (c.siz j) (c.cap j)] 111 (0, 0))
theorem Box2.cells {c : Cells} {B j : Nat} {W : World} (h : Box2 c B j W) : W.cell? ⟨B, 0, none⟩ = some (.int .i64 (c.num j)) ∧ W.cell? ⟨B, 1, none⟩ = some (.slice (c.ptr j) (c.siz j) (c.cap j)) := by
  unfold Box2 at h
  simp [World.cell?, h]
theorem box2_own (c : Cells) (B j : Nat) : Go.Own (fun (_ : Unit) W => Box2 c B j W) := fun s X Y row hs hg hrow => by
  have hne : some B ≠ row := fun e => by
    obtain ⟨o, ho, hcl⟩ := hrow B e.symm
    rw [show X.heap[B]? = _ from hs] at ho
    cases ho
    cases hcl
  exact (hg.block B (Array.getElem?_eq_some_iff.1 (show X.heap[B]? = _ from hs)).1 hne).trans hs

set_option maxRecDepth 100000 in
set_option maxHeartbeats 4000000 in
theorem there_in (n : Nat) (hn : 6 ≤ n) (b m g len cap : Nat) (q : Option Addr) (u : Value) (c : Cells) (w : World) (hm : m < 3120) (hlen : len ≤ 1000000000) (hq : 0 < len → q = some ⟨g, 0, none⟩) (hg : g < w.heap.size)
    (hb : b < w.heap.size) (hu : ∃ p s k, u = .slice p s k) (c1 : w.cell? ⟨b, 3121, none⟩ = some (.slice q len cap)) (c2 : w.cell? ⟨b, 1 + m, none⟩ = some u)
    (hc : ∀ j, j < len → w.cell? ⟨g, j * 2, none⟩ = some (.int .i64 (c.num j)) ∧ w.cell? ⟨g, j * 2 + 1, none⟩ = some (.slice (c.ptr j) (c.siz j) (c.cap j))) :
    CallsIn Fence.wide n Tryz.prog 40 #[.pointer (some ⟨b, 0, none⟩), .int .i64 m] w fun e W' =>
      (((∀ j, j < len → c.num j ≠ m) ∧ e = .returned u) ∨ (∃ j, j < len ∧ c.num j = m ∧ (∀ i, j < i → i < len → c.num i ≠ m) ∧ e = .returned (c.bytes j))) ∧ New w W' := by
  have h1 : 1 ≤ n := by omega
  have hro : Fence.wide.round = none := rfl
  obtain ⟨p0, s0, k0, rfl⟩ := hu
  have HC := hid hc
  have HG : Hid (g < w.heap.size + 3) := hid (by omega)
  clear hc
  refine callsIn_of_wp_marks Tryz.func40 rfl trivial ?_ hro
  simp only [Tryz.ntmps40, List.size_toArray, List.length_cons, List.length_nil, Nat.reduceAdd, Nat.reduceSub, Array.replicate_succ, Array.replicate_zero, List.push_toArray, List.append_toArray, List.nil_append, List.cons_append]
  gi_wp2_with (refine ⟨trivial, ?_⟩; gi_at_call 73; refine (backward_in Fence.wide (n - 1) trivial hro _ _ _ _).mono ?_; rintro e w' ⟨rfl, rfl⟩)
  have bN := ((Boxed.new w 3 (.int .i64 m)).alloc (.cells #[.slice none 0 0] 29)).alloc (.cells #[.slice q len cap] 78)
  have bR := (Boxed.new (w.alloc (.cells #[.int .i64 m] 3)) 29 (.slice none 0 0)).alloc (.cells #[.slice q len cap] 78)
  have bS := Boxed.new ((w.alloc (.cells #[.int .i64 m] 3)).alloc (.cells #[.slice none 0 0] 29)) 78 (.slice q len cap)
  simp only [World.size_alloc] at bR bS
  have hB0 : Below w.heap.size w (((w.alloc (.cells #[.int .i64 m] 3)).alloc (.cells #[.slice none 0 0] 29)).alloc (.cells #[.slice q len cap] 78)) := (((Below.refl _ w).alloc (Nat.le_refl _) _).alloc (by simp) _).alloc (by simp; omega) _
  have hsz : (((w.alloc (.cells #[.int .i64 m] 3)).alloc (.cells #[.slice none 0 0] 29)).alloc (.cells #[.slice q len cap] 78)).heap.size = w.heap.size + 3 := by simp
  obtain ⟨W0, hW0⟩ : ∃ W0, ((w.alloc (.cells #[.int .i64 m] 3)).alloc (.cells #[.slice none 0 0] 29)).alloc (.cells #[.slice q len cap] 78) = W0 := ⟨_, rfl⟩
  rw [hW0] at bN bR bS hB0 hsz ⊢
  clear hW0
  refine wpIn_rangeFunc_ownH hro h1 (gf := 107) (lb := #[.pointer (some ⟨w.heap.size + 1 + 1, 0, none⟩)]) rfl trivial (enters_of Tryz.func107 (by kernel_rfl) rfl)
    (back_stops Fence.wide (n - 1) trivial hro (by omega) (w.heap.size + 1 + 1) (w.heap.size + 3) g len cap q hq c hlen HG.out (by omega) W0 (by omega) bS.cell (fun j hj => ⟨(hB0.cell (p := ⟨g, j * 2, none⟩) hg).trans (HC.out j hj).1, (hB0.cell (p := ⟨g, j * 2 + 1, none⟩) hg).trans (HC.out j hj).2⟩)) belowK_t (belowK_b (by omega)) (Below.refl _ _) (fun _ => rfl)
    (fun pre W => ((((∀ j ∈ pre, c.num j ≠ m) ∧ Boxed W (w.heap.size + 1) 29 (.slice none 0 0)) ∧ Boxed W w.heap.size 3 (.int .i64 m)) ∧ Boxed W (w.heap.size + 1 + 1) 78 (.slice q len cap)) ∧ Below w.heap.size w W)
    (fun ct pre W => (ct = .ret ∧ ∃ ini j, pre = ini ++ [j] ∧ (∀ i ∈ ini, c.num i ≠ m) ∧ c.num j = m ∧ Boxed W (w.heap.size + 1) 29 (c.bytes j)) ∧ Below w.heap.size w W)
    (OwnFrom.and (OwnFrom.and (OwnFrom.and (OwnFrom.and (ownFrom_pure _ _) (Own.from (boxed_own _ _ _) _)) (Own.from (boxed_own _ _ _) _)) (Own.from (boxed_own _ _ _) _)) (ownFrom_below (Nat.le_refl _) (by omega)))
    (fun ct => OwnFrom.and (Own.from (fun s X Y row hs hg hr => by obtain ⟨e0, ini, j, e1, e2, e3, e4⟩ := hs; exact ⟨e0, ini, j, e1, e2, e3, boxed_own _ _ (fun (_ : Unit) => c.bytes j) () X Y row e4 hg hr⟩) _) (ownFrom_below (Nat.le_refl _) (by omega)))
    ⟨⟨⟨⟨by simp, bR⟩, bN⟩, bS⟩, hB0⟩
    (fun x a' W => ∃ Bx, w.heap.size + 1 + 1 < Bx ∧ Box2 c Bx x W ∧ a' = { tmps := #[.pointer (some ⟨b, 0, none⟩), .int .i64 m, undef, .pointer (some ⟨w.heap.size, 0, none⟩), .pointer (some ⟨w.heap.size + 1, 0, none⟩), undef, .pointer (some ⟨Bx, 0, none⟩), .pointer (some ⟨b, 0, none⟩), .pointer (some ⟨b, 0, none⟩), .pointer (some ⟨b, 3121, none⟩), .slice q len cap, .func (.func 107) #[] #[.pointer (some ⟨w.heap.size + 1 + 1, 0, none⟩)], .int .i64 (x : Int), .agg #[.int .i64 (c.num x), .slice (c.ptr x) (c.siz x) (c.cap x)], undef, undef, undef, undef, undef, undef, undef, undef, undef, undef, undef, undef], defers := [] })
    (fun x a' _ X Y row hs hg hr => by obtain ⟨Bx, e1, e2, e3⟩ := hs; exact ⟨Bx, e1, box2_own c Bx x () X Y row e2 hg (fun r e => (hr r e).2), e3⟩)
    ?assign ?body ?done ?stop
  case assign =>
    rintro l pre x W K ⟨⟨⟨⟨hp, bR1⟩, bN1⟩, bS1⟩, hB1⟩ hK
    dsimp only [Cells.enc]
    gi_wp2
    exact hK _ _ ((KeepsOthers.alloc _ _).from _) ((Below.refl _ W).alloc bS1.lt _) ⟨⟨⟨⟨hp, bR1.alloc _⟩, bN1.alloc _⟩, bS1.alloc _⟩, hB1.alloc hB1.size _⟩ ⟨W.heap.size, bS1.lt, World.alloc_heap_new W _, rfl⟩
  case body =>
    rintro l pre x a' W hl ⟨r, hr⟩ ⟨⟨⟨⟨hp, bR1⟩, bN1⟩, bS1⟩, hB1⟩ ⟨Bx, hBx, bX, rfl⟩ hlt
    have cN := bN1.cell
    have cR := bR1.cell
    have fR := bR1.frozen
    obtain ⟨cX0, cX1⟩ := bX.cells
    by_cases he : c.num x = m
    · have ht : (c.num x == (m : Int)) = true := by simpa using he
      have HE := hid he
      clear he
      gi_wp2
      exact ⟨(KeepsOthers.setCell _ _ _).from _, ⟨rfl, pre, x, rfl, hp, HE.out, bR1.set _⟩, hB1.setCell (p := ⟨w.heap.size + 1, 0, none⟩) (by simp) _⟩
    · have ht : (c.num x == (m : Int)) = false := by simpa using he
      have HE := hid he
      clear he
      gi_wp2
      exact ⟨KeepsFrom.refl _ _, Below.refl _ _, ⟨⟨⟨fun z hz => (List.mem_append.1 hz).elim (hp z) (fun e => by simp at e; subst e; exact HE.out), bR1⟩, bN1⟩, bS1⟩, hB1⟩
  case done =>
    rintro D zs W hD rfl ⟨⟨⟨⟨hp, bR1⟩, bN1⟩, bS1⟩, hB1⟩ hK
    have cN := bN1.cell
    have cR := bR1.cell
    have fR := bR1.frozen
    have cU := (hB1.cell (p := ⟨b, 1 + m, none⟩) hb).trans c2
    gi_wp2
    gi_region
    all_goals
      gi_wp2
      have bR2 : Boxed ((W.setCell ⟨w.heap.size + 1, 0, none⟩ (.slice p0 s0 k0)).drew) (w.heap.size + 1) 29 (.slice p0 s0 k0) := bR1.set _
      have hK' : ((W.setCell ⟨w.heap.size + 1, 0, none⟩ (.slice p0 s0 k0)).drew).heap[D]? = some (.deferred (some [])) := (KeepsOthers.setCell W ⟨w.heap.size + 1, 0, none⟩ (.slice p0 s0 k0)).same D _ hK rfl
      refine ⟨by simp, .inl ⟨_, _, rfl, run_takeDeferred hK', ?_⟩⟩
      have hc5 := cell_kept bR2.cell (grownBy_putObj' _ D (.deferred none)) (fun r e => by cases e; exact ⟨_, hK', rfl⟩)
      refine ⟨.slice p0 s0 k0, ?_, .inl ⟨fun j hj => hp j (mem_backTo hj), rfl⟩, ((hB1.setCell (p := ⟨w.heap.size + 1, 0, none⟩) (by simp) _).drew).trans (belowK_b (w := w) (Nat.le_refl _) _ D _ _ (by omega) hK' rfl rfl)⟩
      simp [results, Tryz.f40, go_sem, hc5]
  case stop =>
    rintro D ct pre W hD ⟨k, hk, rfl⟩ ⟨⟨rfl, ini, j, e1, e2, e3, bR1⟩, hB1⟩ hK
    gi_wp2
    refine ⟨by simp, .inl ⟨_, _, rfl, run_takeDeferred hK, ?_⟩⟩
    have hc5 := cell_kept bR1.cell (grownBy_putObj' _ D (.deferred none)) (fun r e => by cases e; exact ⟨_, hK, rfl⟩)
    obtain ⟨k', rfl⟩ : ∃ k', k = k' + 1 := by
      cases k with
      | zero => simp [backTo] at e1
      | succ k' => exact ⟨k', rfl⟩
    rw [backTo_succ] at e1
    obtain ⟨rfl, e5⟩ := List.append_inj' e1 rfl
    obtain rfl : len - 1 - k' = j := by simpa using e5
    refine ⟨c.bytes (len - 1 - k'), ?_, .inr ⟨len - 1 - k', by omega, e3, fun i hi hl => e2 i (mem_backTo_of hi hl), rfl⟩, hB1.trans (belowK_b (w := w) (Nat.le_refl _) W D _ _ (by omega) hK rfl rfl)⟩
    simp [results, Tryz.f40, go_sem, hc5]

end Go.Proofs.YtdccbceaajnajaaGreat
