/- disk.Disk.Flush at each made disk. -/
import Derived.Test.YtdccbceaajnajaaD4
namespace Go.Proofs.Ytdccbceaajnajaa
open Go.RowKit
set_option linter.unusedSimpArgs false
set_option linter.unusedVariables false

/-- A block is laid. -/
def lay1 (s : Nat → ByteArray) (p : Nat × ByteArray) : Nat → ByteArray := fun j => if j = p.1 then p.2 else s j
def layAll (l : List (Nat × ByteArray)) (s : Nat → ByteArray) : Nat → ByteArray := l.foldl lay1 s
theorem layAll_take {l : List (Nat × ByteArray)} {i : Nat} (h : i < l.length) (s : Nat → ByteArray) : layAll (l.take (i + 1)) s = lay1 (layAll (l.take i) s) l[i] := by
  unfold layAll
  rw [List.take_succ_eq_append_getElem h, List.foldl_append]; rfl

/-- A waiting write in memory. -/
theorem Waits.at {w : World} {v : Value} {ow : Option Nat} {l : List (Nat × ByteArray)} (h : Waits w v ow l) {i : Nat} (hi : i < l.length) :
    ∃ g cap u, v = .slice (some ⟨g, 0, none⟩) l.length cap ∧ ow = some g ∧ g < w.heap.size ∧ w.cell? ⟨g, i * 2, none⟩ = some (.int .i64 l[i].1) ∧ w.cell? ⟨g, i * 2 + 1, none⟩ = some u ∧ Content w u l[i].2 := by
  have hb := h.blk
  obtain ⟨xs, hx, h0, hc⟩ := h.cells
  obtain ⟨g, cap, rfl, _, hg⟩ := hx.form (by omega)
  obtain ⟨e1, u, e2, e3⟩ := hc i hi
  exact ⟨g, cap, u, rfl, by rw [← hb]; rfl, hg, by rw [hx.cellAt _ (by omega)]; exact e1, by rw [hx.cellAt _ (by omega)]; exact e2, e3⟩

/-- A block's cell is laid anew. -/
theorem DiskIs.lay {w : World} {b : Nat} {f : Nat → Value} {ow : Option Nat} {A : ADisk} (hr : Raw w b 63 3126 f) (hi : DiskIs w f ow A) {n : Nat} (hn : n < 3120) {u : Value} {s : ByteArray} (hu : Content w u s) :
    DiskIs (w.setCell ⟨b, 1 + n, none⟩ u) (upd f (1 + n) u) ow { A with safe := lay1 A.safe (n, s) } := by
  have ht : Turn (· = b) w (w.setCell ⟨b, 1 + n, none⟩ u) := Turn.setCell (S := (· = b)) (p := ⟨b, 1 + n, none⟩) (Turn.refl _ w) rfl u
  have hap := apart_disk hr
  have g := hi.turn ht hap (waits_ne hr hi.waits)
  constructor
  case made => rw [upd_other _ _ (by omega)]; exact g.made
  case safe =>
    intro i h
    by_cases e : i = n
    · subst e; rw [upd_same]; simpa [lay1] using hu.turn ht hap
    · rw [upd_other _ _ (by omega)]; simpa [lay1, e] using g.safe i h
  case waits => rw [upd_other _ _ (by omega)]; exact g.waits
  case down => rw [upd_other _ _ (by omega)]; exact g.down
  case armed => rw [upd_other _ _ (by omega)]; exact g.armed
  case acts => rw [upd_other _ _ (by omega)]; exact g.acts
  case falls => rw [upd_other _ _ (by omega)]; exact g.falls
  case inside => exact g.inside
  case armed0 => exact g.armed0
  case acts0 => exact g.acts0
  case falls0 => exact g.falls0
/-- Nothing waits any more. -/
theorem DiskIs.drop {w : World} {b : Nat} {f : Nat → Value} {ow : Option Nat} {A : ADisk} (hr : Raw w b 63 3126 f) (hi : DiskIs w f ow A) :
    DiskIs (w.setCell ⟨b, 3121, none⟩ (.slice none 0 0)) (upd f 3121 (.slice none 0 0)) none { A with waits := [] } := by
  have ht : Turn (· = b) w (w.setCell ⟨b, 3121, none⟩ (.slice none 0 0)) := Turn.setCell (S := (· = b)) (p := ⟨b, 3121, none⟩) (Turn.refl _ w) rfl _
  have hap := apart_disk hr
  have g := hi.turn ht hap (waits_ne hr hi.waits)
  constructor
  case made => rw [upd_other _ _ (by omega)]; exact g.made
  case safe => exact fun i h => by rw [upd_other _ _ (by omega)]; exact g.safe i h
  case waits => rw [upd_same]; exact ⟨⟨[], ⟨rfl, .inl ⟨rfl, rfl⟩⟩, fun i h => absurd h (Nat.not_lt_zero _)⟩, rfl⟩
  case down => rw [upd_other _ _ (by omega)]; exact g.down
  case armed => rw [upd_other _ _ (by omega)]; exact g.armed
  case acts => rw [upd_other _ _ (by omega)]; exact g.acts
  case falls => rw [upd_other _ _ (by omega)]; exact g.falls
  case inside => intro p hp; cases hp
  case armed0 => exact g.armed0
  case acts0 => exact g.acts0
  case falls0 => exact g.falls0

def flushA (A : ADisk) : ADisk := if actE A = 0 then { actA A with waits := [], safe := layAll A.waits A.safe } else actA A
theorem actA_safe (A : ADisk) : (actA A).safe = A.safe := by
  unfold actA
  by_cases h : A.down = true
  · simp [h]
  · by_cases h2 : A.armed = 1 <;> simp [h, h2]

set_option maxHeartbeats 2000000 in
theorem flush_down (b : Nat) (ow : Option Nat) (A : ADisk) (w : World) (h : DiskAt w b ow A) (hb : A.falls ≤ 1000000000) (hb2 : A.acts ≤ 1000000000) (ha : actE A ≠ 0) :
    Calls Try.prog 32 #[.pointer (some ⟨b, 0, none⟩)] w (DiskMoved b ow (.int .i64 (actE A)) (actA A) w) := by
  have hd0 := h
  obtain ⟨f, hr, hd⟩ := h
  have c0 := hr.cell 0 (by omega)
  rw [hd.made] at c0
  clear hr hd
  have HD := hid hd0
  clear hd0
  go_enter Try.func32, Try.ntmps32
  go_wp2_with fail
  refine (none_no b w c0).mono ?_
  rintro e w' ⟨rfl, rfl⟩
  go_wp2_with fail
  refine (act_any b ow A _ HD.out hb hb2).mono ?_
  rintro e w1 ⟨rfl, hd1, ht1⟩
  go_wp2
  go_ret
  exact ⟨rfl, ow, hd1, fun _ h => .inl h, ht1.mono (fun k _ h => .inl h)⟩

/-- What holds at the head of a round that lays waiting writes. -/
structure Laying (w1 wr : World) (b : Nat) (ow : Option Nat) (A : ADisk) (s : Nat → ByteArray) (v : Value) : Prop where
  lies : ∃ f, Raw wr b 63 3126 f ∧ DiskIs wr f ow { A with safe := s } ∧ f 3121 = v
  turn : Turn (· = b) w1 wr

theorem Laying.new {w1 wr w2 : World} {b : Nat} {ow : Option Nat} {A : ADisk} {s : Nat → ByteArray} {v : Value} (h : Laying w1 wr b ow A s v) (hn : New wr w2) : Laying w1 w2 b ow A s v := by
  obtain ⟨⟨f, h1, h2, h3⟩, h4⟩ := h
  exact ⟨⟨f, h1.turn (Turn.of_new (S := fun _ => False) hn) (fun h => h), h2.turn (Turn.of_new (S := fun _ => False) hn) (apart_none _) (fun _ _ h => h), h3⟩, h4.trans (Turn.of_new hn)⟩
theorem Laying.next {w1 wr w2 : World} {b : Nat} {ow : Option Nat} {A : ADisk} {s : Nat → ByteArray} {v : Value} (h : Laying w1 wr b ow A s v) (hn : New wr w2) {n : Nat} (hl : n < 3120) {u : Value} {t : ByteArray} (hu : Content w2 u t) :
    Laying w1 (w2.setCell ⟨b, 1 + n, none⟩ u) b ow A (lay1 s (n, t)) v := by
  obtain ⟨⟨f, h1, h2, h3⟩, h4⟩ := h
  have g1 : Raw w2 b 63 3126 f := h1.turn (Turn.of_new (S := fun _ => False) hn) (fun h => h)
  have g2 : DiskIs w2 f ow { A with safe := s } := h2.turn (Turn.of_new (S := fun _ => False) hn) (apart_none _) (fun _ _ h => h)
  refine ⟨⟨_, g1.set (1 + n) u, g2.lay g1 hl hu, by rw [upd_other _ _ (by omega)]; exact h3⟩, ?_⟩
  exact (h4.trans (Turn.of_new hn)).trans (Turn.setCell (S := (· = b)) (p := ⟨b, 1 + n, none⟩) (Turn.refl _ w2) rfl u)

set_option maxHeartbeats 4000000 in
set_option maxRecDepth 100000 in
theorem flush_yes (b : Nat) (ow : Option Nat) (A : ADisk) (w : World) (h : DiskAt w b ow A) (hb : A.falls ≤ 1000000000) (hb2 : A.acts ≤ 1000000000) (hb3 : A.waits.length ≤ 1000000000) (ha : actE A = 0) :
    Calls Try.prog 32 #[.pointer (some ⟨b, 0, none⟩)] w (DiskMoved b ow (.int .i64 0) (flushA A) w) := by
  have hd0 := h
  obtain ⟨f, hr, hd⟩ := h
  have c0 := hr.cell 0 (by omega)
  rw [hd.made] at c0
  clear hr hd
  have HD := hid hd0
  clear hd0
  have HA := hid ha
  clear ha
  go_enter Try.func32, Try.ntmps32
  go_wp2_with fail
  refine (none_no b w c0).mono ?_
  rintro e w' ⟨rfl, rfl⟩
  go_wp2_with fail
  refine (act_any b ow A _ HD.out hb hb2).mono ?_
  rintro e w1 ⟨rfl, hd1, ht1⟩
  rw [HA.out]
  obtain ⟨f1, hr1, hi1⟩ := hd1
  have c1 := hr1.cell 3121 (by omega)
  obtain ⟨q, k, ew, _⟩ := waits_slice hi1.waits
  have hlt := hr1.lt
  have hle : (actA A).waits.length ≤ 1000000000 := by rw [actA_waits]; exact hb3
  rw [ew] at c1
  have HS : Hid (Laying w1 w1 b ow (actA A) (layAll ((actA A).waits.take 0) (actA A).safe) (.slice q (actA A).waits.length k)) := hid ⟨⟨f1, hr1, hi1, ew⟩, Turn.refl _ _⟩
  clear hr1 hi1 ew
  generalize hB : actA A = B at *
  have HB := hid hB
  clear hB
  go_wp2
  go_loopw [18] (fun i wr => ∃ j : Nat, j ≤ B.waits.length ∧ i = .int .i64 j ∧ Hid (Laying w1 wr b ow B (layAll (B.waits.take j) B.safe) (.slice q B.waits.length k))) (fun i _ => B.waits.length - (intOf i).toNat)
  case atStart => exact ⟨0, Nat.zero_le _, rfl, HS⟩
  case round =>
    obtain ⟨j, hj, rfl, hL⟩ := hrel
    by_cases hlt : j < B.waits.length
    · obtain ⟨⟨f2, hr2, hi2, e2⟩, ht2⟩ := hL.out
      obtain ⟨g, cap, u, e3, eo, hg, d0, d1, hu⟩ := hi2.waits.at hlt
      obtain ⟨p, cu, eu⟩ : ∃ p cu, u = .slice p B.waits[j].2.size cu := by obtain ⟨p, c, e, _⟩ := hu.1; exact ⟨p, c, e⟩
      rw [e2] at e3
      injection e3 with e3 _ e4
      subst e3 e4 eu
      have hin := hi2.inside _ (List.getElem_mem hlt)
      have cb := hr2.cell (1 + B.waits[j].1) (by omega)
      have zb := hr2.frozen (1 + B.waits[j].1)
      have hbl := hr2.lt
      have HR := hid hr2
      have HI := hid hi2
      have HN := hid ((Laying.next hL.out (New.refl wr) hin hu).new ((New.refl _).alloc #[.int .i64 B.waits[j].1, .slice p B.waits[j].2.size cu] 103).drew)
      have HE := hid e2
      have HIN := hid hin
      have HTK := hid (layAll_take hlt B.safe)
      clear hr2 hi2 hu e2 hL HS
      go_wp2
      go_region
      all_goals
        go_wp2
        go_roundw
        case rel =>
          refine ⟨j + 1, by omega, by go_num, hid ?_⟩
          rw [HTK.out]
          exact HN.out
        case measure => simp [intOf]; omega
    · have : j = B.waits.length := by omega
      subst this
      obtain ⟨⟨f2, hr2, hi2, e2⟩, ht2⟩ := hL.out
      have c2 := hr2.cell 3121 (by omega)
      rw [e2] at c2
      have z2 := hr2.frozen 3121
      have HR := hid hr2
      have HI := hid hi2
      have HT := hid ht2
      clear hr2 hi2 ht2 e2 hL HS
      go_wp2
      go_ret
      have hd2 := HI.out.drop HR.out
      have ht3 := Turn.setCell (S := (· = b)) (p := ⟨b, 3121, none⟩) HT.out rfl (.slice none 0 0)
      rw [List.take_length, ← HB.out, actA_safe, actA_waits] at hd2
      refine ⟨rfl, none, ⟨_, HR.out.set 3121 _, ?_⟩, fun k h => (by cases h), (ht1.trans ht3).mono (fun k _ h => .inl h)⟩
      · simp only [flushA, HA.out, if_true]
        exact hd2

def flushE (A : ADisk) : Int := actE A
theorem flush_any (b : Nat) (ow : Option Nat) (A : ADisk) (w : World) (h : DiskAt w b ow A) (hb : A.falls ≤ 1000000000) (hb2 : A.acts ≤ 1000000000) (hb3 : A.waits.length ≤ 1000000000) :
    Calls Try.prog 32 #[.pointer (some ⟨b, 0, none⟩)] w (DiskMoved b ow (.int .i64 (actE A)) (flushA A) w) := by
  by_cases ha : actE A = 0
  · rw [ha]; exact flush_yes b ow A w h hb hb2 hb3 ha
  · rw [show flushA A = actA A by simp [flushA, ha]]; exact flush_down b ow A w h hb hb2 ha

end Go.Proofs.Ytdccbceaajnajaa
