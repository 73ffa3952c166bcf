/- disk.Disk.Write, at every disk that was made. -/
import Derived.Test.YtdccbceaajnajaaGreatD2
import Derived.Deep.RegionLaw
import Derived.Deep.AppendLies
namespace Go.Proofs.YtdccbceaajnajaaGreat
open Go.RowKit
set_option linter.unusedSimpArgs false
set_option linter.unusedVariables false

theorem info97 : (Tryz.prog.info? 111).map (fun i => (i.zero, i.size, i.bytes)) = some (some (.agg #[.int .i64 0, .slice none 0 0]), 2, 32) := by kernel_rfl

set_option maxRecDepth 10000 in
/-- append(d.waits, write{n, b}), as a step of a region that draws. -/
theorem step_wait {ops : Array Oper} {o : Oper} {a : Act} {w : World} {K : Act → World → Prop} {Q : Exit → Act → World → Prop} {E : Prop} (hgd : o.guard = none) (sl x : Operand)
    (ho : o.op = .call { callee := .builtin .append, args := #[sl, x], argTypes := #[78, 78] })
    (v : Value) (n : Nat) (xs : List Value) (hs : a.eval sl = v) (hown : w.ownsRow 0 111 2 v n xs) (k : Nat) (c0 c1 : Value) (hx : a.eval x = .slice (some ⟨k, 0, none⟩) 1 1) (h0 : w.cell? ⟨k, 0, none⟩ = some c0) (h1 : w.cell? ⟨k, 1, none⟩ = some c1)
    (o0 : c0.oneCell' = true) (o1 : c1.oneCell' = true) (hb : n ≤ 1000000000)
    (h : ∀ g cap w', w'.ownsRow 0 111 2 (.slice (some ⟨g, 0, none⟩) (n + 1) cap) (n + 1) (xs ++ [c0, c1]) → w.grownBy w' v.ownBlock → (v.ownBlock = some g ∨ g = w.heap.size) → K (a.put o.dst (.slice (some ⟨g, 0, none⟩) (n + 1) cap)) w') :
    if Region.wanted o (yielded ops a.tmps) = true then Oper.wp Tryz.prog o a w K Q else E := by
  obtain ⟨i0, hi, hz0, hz1, hz2⟩ := info_parts info97
  refine step_append_lies w hgd sl x 78 ho 0 111 i0 _ 2 32 Tryz.underlying78 hi hz0 hz1 hz2 rfl (by decide) v n xs hs hown ⟨k, 0, none⟩ 1 1 [c0, c1] hx rfl (fun j u hj => ?_) (fun u hu => ?_) (by omega) (by unfold maxLen; omega) (by omega) (Nat.zero_le _) _ rfl fun g cap w' h1 h2 h3 _ => h g cap w' h1 h2 h3
  · match j, hj with
    | 0, hj => simp at hj; subst hj; exact h0
    | 1, hj => simp at hj; subst hj; exact h1
  · simp at hu
    rcases hu with rfl | rfl
    · exact o0
    · exact o1

theorem Turn.grown {S : Nat → Prop} {a w w' : World} {row : Option Nat} (h : Turn S a w) (hg : w.grownBy w' row) (hr : ∀ k, k < a.heap.size → row = some k → S k) : Turn S a w' :=
  ⟨hg.os.trans h.os, hg.tape.trans h.tape, hg.output.trans h.output, Nat.le_trans h.size hg.size, fun k hk hs => (hg.block k (Nat.lt_of_lt_of_le hk h.size) (fun e => hs (hr k hk e.symm))).trans (h.block k hk hs)⟩
theorem own_turn {S : Nat → Prop} {w w' : World} {base : Nat} {e : TypeId} {size : Nat} {v : Value} {n : Nat} {xs : List Value} (h : w.ownsRow base e size v n xs) (ht : Turn S w w') (hS : ∀ k, v.ownBlock = some k → ¬ S k) : w'.ownsRow base e size v n xs := by
  refine ⟨h.1, ?_⟩
  rcases h.2 with h3 | ⟨g, cap, cur, rfl, hg, hh, r⟩
  · exact .inl h3
  · exact .inr ⟨g, cap, cur, rfl, hg, by rw [ht.block g (Array.getElem?_eq_some_iff.1 hh).1 (hS g rfl)]; exact hh, r⟩
theorem own_old {w w' : World} {base : Nat} {e : TypeId} {size : Nat} {v : Value} {n : Nat} {xs : List Value} (h : w.ownsRow base e size v n xs) (hb : New w w') : w'.ownsRow base e size v n xs :=
  own_turn h (Turn.of_new (S := fun _ => False) hb) (fun _ _ h => h)
theorem Content.new {w w' : World} {v : Value} {s : ByteArray} (h : Content w v s) (hb : New w w') : Content w' v s := h.turn (Turn.of_new (S := fun _ => False) hb) (apart_none w)
/-- The block of a row that is not one of bytes. -/
theorem apart_own {w : World} {base : Nat} {e : TypeId} {size : Nat} {v : Value} {n : Nat} {xs : List Value} (h : w.ownsRow base e size v n xs) (he : e ≠ 5) : Apart (fun k => v.ownBlock = some k) w := by
  intro k c fr hk hh
  rcases h.2 with ⟨rfl, _⟩ | ⟨g, cap, cur, rfl, hg, h2, r⟩
  · simp [Value.ownBlock] at hk
  · simp only [Value.ownBlock, Option.some.injEq] at hk
    subst hk
    rw [h2] at hh
    injection hh with hh
    injection hh with _ e2 _
    exact he e2

theorem own_ne {w : World} {base : Nat} {e : TypeId} {size : Nat} {v : Value} {n : Nat} {xs : List Value} (h : w.ownsRow base e size v n xs) {k : Nat} {c : Array Value} {t : TypeId} {fr : Nat × Nat} (hk : w.heap[k]? = some (.cells c t fr)) (ht : t ≠ e) : v.ownBlock ≠ some k := by
  intro hv
  rcases h.2 with ⟨rfl, _⟩ | ⟨g, cap, cur, rfl, hg, hh, r⟩
  · simp [Value.ownBlock] at hv
  · simp only [Value.ownBlock, Option.some.injEq] at hv
    subst hv
    rw [hh] at hk
    injection hk with hk
    injection hk with _ e2 _
    exact ht e2.symm

/-- The cells of the waiting writes. -/
def WaitCells (w : World) (l : List (Nat × ByteArray)) (xs : List Value) : Prop := xs.length = l.length * 2 ∧ ∀ i (h : i < l.length), xs[i * 2]? = some (.int .i64 l[i].1) ∧ ∃ u, xs[i * 2 + 1]? = some u ∧ Content w u l[i].2
theorem Waits.cells {w : World} {v : Value} {ow : Option Nat} {l : List (Nat × ByteArray)} (h : Waits w v ow l) : ∃ xs, w.ownsRow 0 111 2 v l.length xs ∧ WaitCells w l xs := by
  obtain ⟨⟨xs, h1, h2⟩, h3⟩ := h
  exact ⟨xs, h1, h1.1, h2⟩
theorem WaitCells.snoc {w : World} {l : List (Nat × ByteArray)} {xs : List Value} (h : WaitCells w l xs) {n : Nat} {u : Value} {s : ByteArray} (hu : Content w u s) : WaitCells w (l ++ [(n, s)]) (xs ++ [.int .i64 n, u]) := by
  obtain ⟨h0, h1⟩ := h
  refine ⟨by simp [h0]; omega, fun i hi => ?_⟩
  rcases Nat.lt_or_ge i l.length with h | h
  · obtain ⟨e1, u', e2, e3⟩ := h1 i h
    rw [List.getElem_append_left h]
    exact ⟨by rw [List.getElem?_append_left (by omega)]; exact e1, u', by rw [List.getElem?_append_left (by omega)]; exact e2, e3⟩
  · have : i = l.length := by simp at hi; omega
    subst this
    refine ⟨?_, u, ?_, ?_⟩
    · rw [List.getElem?_append_right (by omega), h0]; simp
    · rw [List.getElem?_append_right (by omega), h0, show l.length * 2 + 1 - l.length * 2 = 1 by omega]; simp
    · simpa using hu
theorem WaitCells.turn {S : Nat → Prop} {w w' : World} {l : List (Nat × ByteArray)} {xs : List Value} (h : WaitCells w l xs) (ht : Turn S w w') (hS : Apart S w) : WaitCells w' l xs :=
  ⟨h.1, fun i hi => by obtain ⟨e1, u, e2, e3⟩ := h.2 i hi; exact ⟨e1, u, e2, e3.turn ht hS⟩⟩

/-- The waiting writes laid anew, with one more. -/
theorem wait_laid {w1 w2 w3 : World} {b : Nat} {f : Nat → Value} {ow : Option Nat} {A : ADisk} (hr : Raw w1 b 80 3126 f) (hi : DiskIs w1 f ow A) (hn : New w1 w2) {xs : List Value}
    (hx : w1.ownsRow 0 111 2 (f 3121) A.waits.length xs) (hc : WaitCells w1 A.waits xs) {u v : Value} {m : Int} {n : Nat} {s : ByteArray} (hm : m = n) (hu : Content w2 u s) (hg : w2.grownBy w3 (f 3121).ownBlock)
    (hown : w3.ownsRow 0 111 2 v (A.waits.length + 1) (xs ++ [.int .i64 m, u])) (hv : v.ownBlock = (f 3121).ownBlock ∨ ∃ g, v.ownBlock = some g ∧ w1.heap.size ≤ g) (hin : n < 3120) :
    DiskAt (w3.setCell ⟨b, 3121, none⟩ v) b v.ownBlock { A with waits := A.waits ++ [(n, s)] } ∧ Turn (fun k => k = b ∨ ow = some k) w1 (w3.setCell ⟨b, 3121, none⟩ v) := by
  subst hm
  have hbl := hi.waits.blk
  have hne := waits_ne hr hi.waits
  have hlt := hr.lt
  have ht1 : Turn (fun k => (f 3121).ownBlock = some k) w1 w3 := (Turn.of_new hn).grown hg (fun k _ h => h)
  have ht2 : Turn (fun k => (f 3121).ownBlock = some k) w2 w3 := (Turn.refl _ w2).grown hg (fun k _ h => h)
  have hr3 : Raw w3 b 80 3126 f := hr.turn ht1 (fun h => hne b (hbl ▸ h) rfl)
  have hap1 := apart_own hx (by decide)
  have hap2 := apart_own (own_old hx hn) (by decide)
  have hap3 := apart_disk hr3
  have hset : Turn (· = b) w3 (w3.setCell ⟨b, 3121, none⟩ v) := Turn.setCell (S := (· = b)) (p := ⟨b, 3121, none⟩) (Turn.refl _ w3) rfl v
  refine ⟨⟨_, hr3.set 3121 v, ?_⟩, (ht1.mono (fun k _ h => .inr (hbl ▸ h))).trans (hset.mono (fun k _ h => .inl h))⟩
  have hvb : ∀ k, v.ownBlock = some k → ¬ k = b := by
    intro k hk
    rcases hv with h | ⟨g, h, hg⟩
    · exact hne k (by rw [← hbl, ← h, hk])
    · rw [h] at hk; injection hk; omega
  have hcs := ((hc.turn ht1 hap1).snoc (n := n) (hu.turn ht2 hap2)).turn hset hap3
  constructor
  case made => rw [upd_other _ _ (by decide)]; exact hi.made
  case safe => exact fun i h => by rw [upd_other _ _ (by omega)]; exact ((hi.safe i h).turn ht1 hap1).turn hset hap3
  case waits => 
    rw [upd_same]
    exact ⟨⟨_, by simpa using own_turn hown hset hvb, hcs.2⟩, rfl⟩
  case down => rw [upd_other _ _ (by decide)]; exact hi.down
  case armed => rw [upd_other _ _ (by decide)]; exact hi.armed
  case acts => rw [upd_other _ _ (by decide)]; exact hi.acts
  case falls => rw [upd_other _ _ (by decide)]; exact hi.falls
  case inside =>
    intro p hp
    rcases List.mem_append.1 hp with h | h
    · exact hi.inside p h
    · simp at h; subst h; exact hin
  case armed0 => exact hi.armed0
  case acts0 => exact hi.acts0
  case falls0 => exact hi.falls0

theorem actA_waits (A : ADisk) : (actA A).waits = A.waits := by
  unfold actA
  by_cases h : A.down = true
  · simp [h]
  · by_cases h2 : A.armed = 1 <;> simp [h, h2]
theorem Bytes.new {w w' : World} {v : Value} {s : ByteArray} (h : Bytes w v s) (hb : New w w') : Bytes w' v s := RowAt.new h hb

def writeE (A : ADisk) (n : Int) (s : ByteArray) : Int := if !isB n || decide (340 < s.size) then 2 else actE A
def writeA (A : ADisk) (n : Int) (s : ByteArray) : ADisk := if !isB n || decide (340 < s.size) then A else if actE A = 0 then { actA A with waits := A.waits ++ [(n.toNat, s)] } else actA A
/-- Behind a call that may have laid the waiting writes anew. -/
def DiskMoved (b : Nat) (ow : Option Nat) (v : Value) (A : ADisk) (w : World) (e : Ending) (w' : World) : Prop :=
  e = .returned v ∧ ∃ ow', DiskAt w' b ow' A ∧ (∀ k, ow' = some k → ow = some k ∨ w.heap.size ≤ k) ∧ Turn (fun k => k = b ∨ ow = some k) w w'

theorem writeA_yes {A : ADisk} {n : Int} {s : ByteArray} (hn : isB n = true) (hs : s.size ≤ 340) (ha : actE A = 0) : writeA A n s = { actA A with waits := (actA A).waits ++ [(n.toNat, s)] } := by
  have : ¬ 340 < s.size := by omega
  simp [writeA, hn, ha, this, actA_waits]

theorem Bytes.turn {S : Nat → Prop} {w w' : World} {v : Value} {s : ByteArray} (h : Bytes w v s) (ht : Turn S w w') (hS : 0 < s.size → ∀ k, v.ownBlock = some k → ¬ S k) : Bytes w' v s := by
  obtain ⟨p, c, rfl, h1, h2, h3⟩ := h
  refine ⟨p, c, rfl, h1, h2, fun h0 => ?_⟩
  obtain ⟨b, o, rfl, hb, hc⟩ := h3 h0
  refine ⟨b, o, rfl, Nat.lt_of_lt_of_le hb ht.size, fun i hi => ?_⟩
  rw [World.cell?_of_block (w := w) (a := ⟨b, o + i, none⟩) (ht.block b hb (hS h0 b rfl))]
  exact hc i hi

set_option maxHeartbeats 2000000 in
set_option maxRecDepth 100000 in
theorem write_yes (b : Nat) (ow : Option Nat) (A : ADisk) (n : Int) (v : Value) (s : ByteArray) (w : World) (h : DiskAt w b ow A) (hv : Bytes w v s) (hvb : 0 < s.size → ∀ k, v.ownBlock = some k → ¬ k = b) (hb : A.falls ≤ 1000000000) (hb2 : A.acts ≤ 1000000000) (hb3 : A.waits.length ≤ 1000000000)
    (hn : isB n = true) (hs : s.size ≤ 340) (ha : actE A = 0) :
    Calls Tryz.prog 59 #[.pointer (some ⟨b, 0, none⟩), .int .i64 n, v] w (DiskMoved b ow (.int .i64 0) (writeA A n s) w) := by
  have hd0 := h
  obtain ⟨f, hr, hd⟩ := h
  have c0 := hr.cell 0 (by omega)
  have h0 := hid hr
  rw [hd.made] at c0
  have HV := hid hv
  have HVB := hid hvb
  clear hvb
  obtain ⟨p, c, rfl, g1, g2, _⟩ := hv
  unfold maxLen at g2
  clear hr hd
  have HD := hid hd0
  clear hd0
  have HA := hid ha
  clear ha
  go_enter Tryz.func59, Tryz.ntmps59
  go_wp2_with fail
  refine (none_no b w c0).mono ?_
  rintro e w' ⟨rfl, rfl⟩
  go_wp2_with fail
  refine (isBlock_any _ _).mono ?_
  rintro e w' ⟨rfl, rfl⟩
  go_wp2_with fail
  refine (act_any b ow A _ HD.out hb hb2).mono ?_
  rintro e w1 ⟨rfl, hd1, ht1⟩
  rw [HA.out]
  obtain ⟨f1, hr1, hi1⟩ := hd1
  have c1 := hr1.cell 3121 (by omega)
  have z1 := hr1.frozen 3121
  obtain ⟨xs, hx, hc⟩ := hi1.waits.cells
  have hV1 := HV.out.turn ht1 HVB.out
  obtain ⟨q, k, ew, _⟩ := waits_slice hi1.waits
  have hlt := hr1.lt
  have hle : (actA A).waits.length ≤ 1000000000 := by rw [actA_waits]; exact hb3
  have hqb : ∀ k', (f1 3121).ownBlock = some k' → ¬ k' = b := fun k' h => waits_ne hr1 hi1.waits k' (by rw [← hi1.waits.blk]; exact h)
  rw [ew] at c1 hqb
  have hx' := hx
  rw [ew] at hx'
  have HX := hid hx
  have HX' := hid hx'
  have HC := hid hc
  have HV1 := hid hV1
  have HR := hid hr1
  have HI := hid hi1
  have HE := hid ew
  have HL := hid hle
  have HQ := hid hqb
  have c1' : ∀ w', New w1 w' → w'.cell? ⟨b, 3121, none⟩ = some (Value.slice q (actA A).waits.length k) := fun w' h => by rw [h.cell b 3121 hlt]; exact c1
  have z1' : ∀ w', New w1 w' → w'.frozen? ⟨b, 3121, none⟩ = false := fun w' h => by rw [(bcell h).2 b 3121 hlt]; exact z1
  clear hr1 hi1 ew hx hx' hc hV1 hle hqb
  go_wp2
  go_region_law (first
    | (go_simp; go_at_call 39; refine (cloneBytes_any _ _ _ (HV1.out.new (New.refl w1).drew) (by omega)).mono ?_; rintro e w2 ⟨p2, k2, rfl, hu2, hn2⟩; have c2 := c1' _ ((New.refl w1).drew.trans hn2); have l2 := ((New.refl w1).drew.trans hn2).size; have l3 : b < w2.heap.size := Nat.lt_of_lt_of_le hlt l2; have c3 := c1' _ (((New.refl w1).drew.trans hn2).alloc #[.int .i64 n, .slice p2 s.size k2] 111))
    | (refine step_wait rfl _ _ rfl _ _ _ rfl (own_old HX'.out (((New.refl w1).drew.trans hn2).alloc _ _)) w2.heap.size (.int .i64 n) (.slice p2 s.size k2) rfl (by simp) (by simp) rfl rfl HL.out ?_; intro g4 k4 w4 own4 grow4 blk4; have l4 : b < (w2.alloc (.cells #[.int .i64 n, .slice p2 s.size k2] 111)).heap.size := (by simp; omega); have c4 := grow4.cell_far ⟨b, 3121, none⟩ l4 (fun e => HQ.out _ e.symm rfl); have z4 := grow4.frozen_far ⟨b, 3121, none⟩ l4 (fun e => HQ.out _ e.symm rfl); rw [c1' _ (((New.refl w1).drew.trans hn2).alloc _ _)] at c4; rw [z1' _ (((New.refl w1).drew.trans hn2).alloc _ _)] at z4))
  all_goals
    go_wp2
    go_ret
    have hn4 := ((New.refl w1).drew.trans hn2).alloc #[.int .i64 n, .slice p2 s.size k2] 111
    have hbk : (Value.slice (some ⟨g4, 0, none⟩) ((actA A).waits.length + 1) k4).ownBlock = (f1 3121).ownBlock ∨ ∃ g, (Value.slice (some ⟨g4, 0, none⟩) ((actA A).waits.length + 1) k4).ownBlock = some g ∧ w1.heap.size ≤ g := by
      rcases blk4 with h | h
      · exact .inl (by rw [HE.out]; exact h.symm)
      · exact .inr ⟨g4, rfl, by have := hn4.size; omega⟩
    obtain ⟨hd, ht⟩ := wait_laid HR.out HI.out hn4 HX.out HC.out (m := n) (n := n.toNat) (s := s) (by unfold isB at hn; simp at hn; omega) (hu2.new ((New.refl w2).alloc #[.int .i64 n, .slice p2 s.size k2] 111)) (by rw [HE.out]; exact grow4) own4 hbk (by unfold isB at hn; simp at hn; omega)
    refine ⟨rfl, _, by rw [writeA_yes hn hs HA.out]; exact hd, ?_, (ht1.mono (fun k _ h => .inl h)).trans ht⟩
    intro k' hk'
    rcases hbk with h | ⟨g, h, hg⟩
    · exact .inl (by rw [← HI.out.waits.blk, ← h]; exact hk')
    · rw [h] at hk'; injection hk' with hk'; subst hk'; exact .inr (Nat.le_trans ht1.size hg)

end Go.Proofs.YtdccbceaajnajaaGreat
