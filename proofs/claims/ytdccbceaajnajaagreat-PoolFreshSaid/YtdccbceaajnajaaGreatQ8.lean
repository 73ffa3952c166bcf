/- pool.Pool.use of a page that a frame has. pool.Pool.use of a page that no frame has. (written by puse.py) pool.Pool.use of a page that no frame has, where the pool is full. (written by puse3.py) pool.Pool.Frames. progenyref04.PageOf: words ahead of its walk. pool.Pool.use in whole, and pool.Pool.Page. The first example of the chapter. PoolBlocks: its walk. -/
import Derived.Test.YtdccbceaajnajaaGreatP9
import Derived.Test.YtdccbceaajnajaaGreatD4
import Derived.BigQuiet
import Derived.Test.YtdccbceaajnajaaGreatU8
namespace Go.Proofs.YtdccbceaajnajaaGreat
open Go.RowKit
set_option linter.unusedSimpArgs false
set_option linter.unusedVariables false

/-- The pool behind a use of the page of its frame i. -/
def hitP (P : APool) (i : Nat) (x : Nat × AFrame) : APool := { P with frames := P.frames.eraseIdx i ++ [x] }
def UseHit (w0 : World) (b : Nat) (ow : Option Nat) (tb : Nat) (ot : Option Nat) (pb : Nat) (os : Option Nat) (A : ADisk) (T : ATape) (P : APool) (i : Nat) (x : Nat × AFrame) (w : World) (e : Ending) (w' : World) : Prop :=
  ∃ os', e = .returned (.tuple #[.pointer (some ⟨x.1, 0, none⟩), .int .i64 0]) ∧ Sys w0 w' b ow tb ot pb os' A T (hitP P i x) ∧ Turn (fun k => k = pb ∨ os = some k) w w' ∧ (∀ k, os' = some k → os = some k ∨ w.heap.size ≤ k)
theorem grown_turn {w w' : World} {os : Option Nat} (h : w.grownBy w' os) : Turn (fun k => os = some k) w w' :=
  ⟨h.os, h.tape, h.output, h.size, fun k hk hs => h.block k hk (fun e => hs e.symm)⟩

theorem erase_perm {α : Type} (l : List α) (i : Nat) (x : α) (h : l[i]? = some x) : (x :: l.eraseIdx i).Perm l := by
  induction l generalizing i with
  | nil => simp at h
  | cons y l ih =>
    cases i with
    | zero =>
      simp at h
      subst h
      exact List.Perm.refl _
    | succ i =>
      simp at h
      exact (List.Perm.swap _ _ _).trans ((ih i h).cons y)

set_option maxHeartbeats 4000000 in
set_option maxRecDepth 100000 in
theorem use_hit (w0 : World) (b : Nat) (ow : Option Nat) (tb : Nat) (ot : Option Nat) (pb : Nat) (os : Option Nat) (A : ADisk) (T : ATape) (P : APool) (i : Nat) (x : Nat × AFrame) (n : Nat) (w : World) (S : Sys w0 w b ow tb ot pb os A T P) (hi : i < P.frames.length) (hx : P.frames[i]? = some x) (hpg : x.2.page = n)
    (hbef : ∀ j, j < i → ∀ y, P.frames[j]? = some y → y.2.page ≠ n) (hl : P.frames.length ≤ 100000) :
    Calls Tryz.prog 50 #[.pointer (some ⟨pb, 0, none⟩), .int .i64 (n : Int)] w (UseHit w0 b ow tb ot pb os A T P i x w) := by
  have N0 := hid ((New.refl w).alloc #[.int .i64 (n : Int)] 3)
  have S0 := hid (S.newer N0.out)
  have gb0 : (w.alloc (.cells #[.int .i64 (n : Int)] 3)).cell? ⟨w.heap.size, 0, none⟩ = some (.int .i64 (n : Int)) := cells_of (heap_alloc_new w _) 0
  have GB := hid gb0
  obtain ⟨p, c, e1, e2, e3⟩ := pool_open S0.out.pool
  have hc := cells_of e1
  unfold poolCells at hc
  have OWN := hid e3
  have HF : Hid (∀ p ∈ P.frames, FrameAt (w.alloc (.cells #[.int .i64 (n : Int)] 3)) p.1 p.2) := hid S0.out.pool.frames
  have HL := hid hl
  have HLT := hid hi
  have HX := hid hx
  have HPG := hid hpg
  have HBEF := hid hbef
  have HS := hid S
  clear S hl hi hx hpg hbef e1 e2 e3 gb0
  go_enter Tryz.func50, Tryz.ntmps50
  go_wp2_with fail
  refine (idxF_any _ P.frames (n : Int) w.heap.size _ OWN.out HF.out GB.out (by have := HL.out; omega)).mono ?_
  rintro e w1 ⟨n1, hcase⟩
  have he : e = .returned (.int .i64 (i : Int)) := by
    rcases hcase with ⟨_, hall⟩ | ⟨j, hj, he, hp, hb⟩
    · exact absurd (by rw [HPG.out]) (hall x (List.mem_of_getElem? HX.out))
    · have : j = i := by
        rcases Nat.lt_trichotomy j i with h | h | h
        · exact absurd (by exact_mod_cast hp) (HBEF.out j h _ (List.getElem?_eq_getElem hj))
        · exact h
        · have hb' := hb i h
          rw [(List.getElem?_eq_some_iff.1 HX.out).2, HPG.out] at hb'
          exact absurd rfl hb'
      subst this
      exact he
  subst he
  have S1 := hid (S0.out.newer n1)
  have N1 := hid (N0.out.trans n1)
  clear hcase n1 hc HF GB OWN
  obtain ⟨p, c, e1, e2, e3⟩ := pool_open S1.out.pool
  have hc := cells_of e1
  unfold poolCells at hc
  obtain ⟨g, cap, e4, _, _⟩ := e3.form (by have := HLT.out; omega)
  injection e4 with e5 e6 e7
  subst e5
  have d0 := e3.cellAt i (by have := HLT.out; omega)
  have x0 : (ptrVals P.frames)[i]? = some (.pointer (some ⟨x.1, 0, none⟩)) := by
    simp only [ptrVals, List.getElem?_map]
    rw [HX.out]
    rfl
  rw [x0] at d0
  have OWN := hid e3
  have E1 := hid e1
  have E2 := hid e2
  have q0 : decide ((0 : Int) ≤ (i : Int)) = true := by simp
  have q1 : i < P.frames.length := HLT.out
  have q2 : (i : Int) < (P.frames.length : Int) := by have := HLT.out; omega
  have q3 := HL.out
  clear e1 e2 e3 x0 e6 e7
  go_wp2_with fail
  refine (delete_any _ 0 _ P.frames i HLT.out OWN.out (by have := HL.out; omega)).mono ?_
  rintro e w2 ⟨v2, rfl, hv2, own2, t2, sz2⟩
  obtain ⟨p2, c2, rfl⟩ := own_len own2
  have hnp : ∀ k, (Value.slice (some ⟨g, 0, none⟩) P.frames.length c).ownBlock = some k → ¬ k = pb := fun k hk e => own_ne OWN.out E1.out (by decide) (e ▸ hk)
  have HV2 : Hid ((Value.slice p2 (P.frames.length - 1) c2).ownBlock = os) := hid (hv2.trans E2.out)
  have X2 : w2.heap[pb]? = some (.cells (poolCells b tb P.size (.slice (some ⟨g, 0, none⟩) P.frames.length c) P.reads) 90 (0, 0)) := by
    rw [t2.block pb (Array.getElem?_eq_some_iff.1 E1.out).1 (fun e => hnp pb e rfl)]; exact E1.out
  have T2 : Hid (Turn (fun k => k = pb ∨ os = some k) w1 w2) := hid (t2.mono fun k _ h => .inr (E2.out.symm.trans h))
  have OWN2 := hid own2
  have NA := hid ((New.refl w2).alloc #[.pointer (some ⟨x.1, 0, none⟩)] 91)
  have X3 : (w2.alloc (.cells #[.pointer (some ⟨x.1, 0, none⟩)] 91)).heap[pb]? = some (.cells (poolCells b tb P.size (.slice (some ⟨g, 0, none⟩) P.frames.length c) P.reads) 90 (0, 0)) := by
    rw [Below.block NA.out _ (Array.getElem?_eq_some_iff.1 X2).1]; exact X2
  have HX3 := hid X3
  clear hv2 own2 t2 sz2 X2 X3 hc d0 q0 q1 q2
  go_wp2_with (at_builtin; refine app_frame rfl _ _ rfl 0 _ (P.frames.length - 1) _ rfl (own_old OWN2.out NA.out) ⟨w2.heap.size, 0, none⟩ x.1 rfl ?cn ?cb ?cc ?_)
  case cn => exact cells_of (heap_alloc_new w2 _) 0
  case cb => have := HL.out; omega
  case cc => exact Nat.zero_le _
  intro v4 w4 own4 grow4 blk4
  obtain ⟨p4, c4, rfl⟩ := own_len own4
  have X4 : w4.heap[pb]? = some (.cells (poolCells b tb P.size (.slice (some ⟨g, 0, none⟩) P.frames.length c) P.reads) 90 (0, 0)) := by
    rw [grow4.block pb (Array.getElem?_eq_some_iff.1 HX3.out).1 (fun e => own_ne (own_old OWN2.out NA.out) HX3.out (by decide) e.symm)]; exact HX3.out
  have m4 := cells_of X4
  unfold poolCells at m4
  have f4 := frozen_of X4
  have HX4 := hid X4
  have G4 := hid (grown_turn grow4)
  have B4 := hid blk4
  have OWN4 := hid own4
  clear grow4 blk4 own4 X4
  go_wp2
  go_ret2
  have hlen : P.frames.length - 1 + 1 = (hitP P i x).frames.length := by
    have := HLT.out
    simp [hitP, List.length_eraseIdx, HLT.out]
  have hts := turn_set w4 pb 3 (.slice p4 (P.frames.length - 1 + 1) c4)
  have hT : Turn (fun k => k = pb ∨ os = some k) w1 (w4.setCell ⟨pb, 3, none⟩ (.slice p4 (P.frames.length - 1 + 1) c4)) :=
    ((T2.out.trans (Turn.of_new NA.out)).trans (G4.out.mono fun k _ h => .inr (HV2.out.symm.trans h))).trans (hts.mono fun k _ h => .inl h)
  have hX5 := heap_setCell_same w4 pb 3 _ 90 (.slice p4 (P.frames.length - 1 + 1) c4) HX4.out
  have hown : (w4.setCell ⟨pb, 3, none⟩ (.slice p4 (P.frames.length - 1 + 1) c4)).ownsRow 0 91 1 (.slice p4 (P.frames.length - 1 + 1) c4) (hitP P i x).frames.length (ptrVals (hitP P i x).frames) := by
    have h1 := own_turn OWN4.out hts (fun k hk e => own_ne OWN4.out HX4.out (by decide) (e ▸ hk))
    rw [hlen] at h1 ⊢
    have h2 : ptrVals (hitP P i x).frames = ptrVals (P.frames.eraseIdx i) ++ [.pointer (some ⟨x.1, 0, none⟩)] := by simp [hitP, ptrVals]
    rw [h2]
    exact h1
  have hperm : (hitP P i x).frames.Perm P.frames := by
    exact (List.perm_append_singleton _ _).trans (erase_perm _ _ _ HX.out)
  have hmem : ∀ q ∈ (hitP P i x).frames, q ∈ P.frames := fun q hq => hperm.mem_iff.1 hq
  have hnd : ((hitP P i x).frames.map (·.1)).Nodup := (hperm.map _).nodup_iff.2 HS.out.pool.nodup
  have hos : ∀ k, (Value.slice p4 (P.frames.length - 1 + 1) c4).ownBlock = some k → os = some k ∨ w.heap.size ≤ k := fun k hk => by
    rcases B4.out with h | h
    · exact .inl (HV2.out.symm.trans (h.symm.trans hk))
    · rw [hk] at h
      injection h with h
      refine .inr ?_
      rw [h]
      exact Nat.le_trans N1.out.size (Nat.le_trans T2.out.size (by simp))
  refine ⟨(Value.slice p4 (P.frames.length - 1 + 1) c4).ownBlock, rfl, ?_, (Turn.of_new N1.out).trans hT, hos⟩
  refine S1.out.laid hT (S1.out.pool.laid hT _ (hitP P i x) ?_ hown hnd (fun q hq => .inl (hmem q hq))) ?_
  · rw [hX5]
    rfl
  · rintro k (rfl | h | ⟨q, hq, rfl⟩)
    · exact HS.out.pp _ (.inl rfl)
    · rcases hos k h with h | h
      · exact HS.out.pp _ (.inr (.inl h))
      · exact Nat.le_trans HS.out.log.new.size h
    · exact HS.out.pp _ (.inr (.inr ⟨q, hmem q hq, rfl⟩))

end Go.Proofs.YtdccbceaajnajaaGreat

namespace Go.Proofs.YtdccbceaajnajaaGreat
open Go.RowKit
set_option linter.unusedSimpArgs false
set_option linter.unusedVariables false

def zero128 : ByteArray := bytesOf (List.replicate 128 0)
/-- The frame of a page that was read. -/
def frameOf (n : Nat) (l : List UInt8) : AFrame := if pageE l then ⟨n, bytesOf (pageL l), (frontN l).toNat, false⟩ else ⟨n, zero128, 0, false⟩
theorem frontN_nonneg (l : List UInt8) : 0 ≤ frontN l := by
  unfold frontN rdNum
  exact valB_nonneg _
/-- The pool behind a page that was read. -/
def readP (P : APool) (k : Nat) (f : AFrame) : APool := { P with frames := (if P.frames.length = P.size then P.frames.drop 1 else P.frames) ++ [(k, f)], reads := P.reads + 1 }
/-- The blocks of a disk, a log and a pool. -/
def alls (b : Nat) (ow : Option Nat) (tb : Nat) (ot : Option Nat) (pb : Nat) (os : Option Nat) (P : APool) : Nat → Prop := fun k => logs b ow tb ot k ∨ pools pb os P k
/-- Behind the reading of a page into a frame; the pool has had room made. -/
def ReadIn (w0 : World) (b : Nat) (ow : Option Nat) (tb : Nat) (ot : Option Nat) (pb : Nat) (os : Option Nat) (A : ADisk) (T : ATape) (P : APool) (n : Nat) (w : World) (e : Ending) (w' : World) : Prop :=
  (readE A n ≠ 0 ∧ e = .returned (.tuple #[.pointer none, .int .i64 (readE A n)]) ∧ Sys w0 w' b ow tb ot pb os A T P ∧ New w w') ∨
  (readE A n = 0 ∧ ∃ k os', w.heap.size ≤ k ∧ e = .returned (.tuple #[.pointer (some ⟨k, 0, none⟩), .int .i64 0]) ∧ Sys w0 w' b ow tb ot pb os' A T (readP P k (frameOf n (readB A n).data.toList)) ∧ Turn (fun k => k = pb ∨ os = some k) w w' ∧ (∀ k, os' = some k → os = some k ∨ w.heap.size ≤ k))

theorem make_zero : ∀ w, (Instr.makeSlice 29 (.int .i64 128) (.int .i64 128)).run Tryz.prog w = .ok (.slice (some ⟨w.heap.size, 0, none⟩) 128 128) (w.alloc (.cells (Array.replicate 128 (.int .u8 0)) 5)) := fun _ => by kernel_rfl
theorem frame_read {w : World} {k n : Nat} {l : List UInt8} {p : Option Addr} {c : Nat} (h : w.heap[k]? = some (.cells #[.int .i64 (n : Int), .slice none 0 0, .int .i64 0, .bool false] 93 (0, 0))) (hc : Content w (.slice p 128 c) (bytesOf (pageL l))) (hp : pageE l = true) :
    FrameAt ((w.setCell ⟨k, 1, none⟩ (.slice p 128 c)).setCell ⟨k, 2, none⟩ (.int .i64 (frontN l))) k (frameOf n l) ∧ Turn (· = k) w ((w.setCell ⟨k, 1, none⟩ (.slice p 128 c)).setCell ⟨k, 2, none⟩ (.int .i64 (frontN l))) := by
  have ht := (turn_set w k 1 (.slice p 128 c)).trans (turn_set _ k 2 (.int .i64 (frontN l)))
  have e : frameOf n l = ⟨n, bytesOf (pageL l), (frontN l).toNat, false⟩ := by unfold frameOf; rw [if_pos hp]
  rw [e]
  refine ⟨⟨.slice p 128 c, ?_, hc.turn ht (apart_of h (by decide))⟩, ht⟩
  have e2 : (((frontN l).toNat : Nat) : Int) = frontN l := Int.toNat_of_nonneg (frontN_nonneg l)
  show _ = some (Obj.cells #[.int .i64 (n : Int), .slice p 128 c, .int .i64 (((frontN l).toNat : Nat) : Int), .bool false] 93 (0, 0))
  rw [e2]
  exact heap_setCell_same _ k 2 _ 93 _ (heap_setCell_same w k 1 _ 93 _ h)
theorem frame_mid {w : World} {k n : Nat} (h : w.heap[k]? = some (.cells #[.int .i64 (n : Int), .slice none 0 0, .int .i64 0, .bool false] 93 (0, 0))) :
    (((w.setCell ⟨k, 1, none⟩ (.slice none 0 0)).setCell ⟨k, 2, none⟩ (.int .i64 0)).alloc (.cells (Array.replicate 128 (.int .u8 0)) 5)).heap[k]? = some (.cells #[.int .i64 (n : Int), .slice none 0 0, .int .i64 0, .bool false] 93 (0, 0)) := by
  have h1 := heap_setCell_same _ k 2 _ 93 (.int .i64 0) (heap_setCell_same w k 1 _ 93 (.slice none 0 0) h)
  generalize (w.setCell ⟨k, 1, none⟩ (.slice none 0 0)).setCell ⟨k, 2, none⟩ (.int .i64 0) = w1 at *
  exact (Below.block ((New.refl w1).alloc (Array.replicate 128 (.int .u8 0)) 5) _ (Array.getElem?_eq_some_iff.1 h1).1).trans h1
theorem frame_zero {w : World} {k n : Nat} {l : List UInt8} (h : w.heap[k]? = some (.cells #[.int .i64 (n : Int), .slice none 0 0, .int .i64 0, .bool false] 93 (0, 0))) (hp : pageE l = false) :
    FrameAt ((((w.setCell ⟨k, 1, none⟩ (.slice none 0 0)).setCell ⟨k, 2, none⟩ (.int .i64 0)).alloc (.cells (Array.replicate 128 (.int .u8 0)) 5)).setCell ⟨k, 1, none⟩ (.slice (some ⟨w.heap.size, 0, none⟩) 128 128)) k (frameOf n l) ∧
    Turn (· = k) w ((((w.setCell ⟨k, 1, none⟩ (.slice none 0 0)).setCell ⟨k, 2, none⟩ (.int .i64 0)).alloc (.cells (Array.replicate 128 (.int .u8 0)) 5)).setCell ⟨k, 1, none⟩ (.slice (some ⟨w.heap.size, 0, none⟩) 128 128)) := by
  have ht1 := (turn_set w k 1 (.slice none 0 0)).trans (turn_set _ k 2 (.int .i64 0))
  have h1 := heap_setCell_same _ k 2 _ 93 (.int .i64 0) (heap_setCell_same w k 1 _ 93 (.slice none 0 0) h)
  have hsz : ((w.setCell ⟨k, 1, none⟩ (.slice none 0 0)).setCell ⟨k, 2, none⟩ (.int .i64 0)).heap.size = w.heap.size := by simp
  rw [← hsz]
  clear hsz
  generalize hw1 : (w.setCell ⟨k, 1, none⟩ (.slice none 0 0)).setCell ⟨k, 2, none⟩ (.int .i64 0) = w1 at *
  have hn := (New.refl w1).alloc (Array.replicate 128 (.int .u8 0)) 5
  have h2 : (w1.alloc (.cells (Array.replicate 128 (.int .u8 0)) 5)).heap[k]? = _ := (Below.block hn _ (Array.getElem?_eq_some_iff.1 h1).1).trans h1
  have ht2 := turn_set (w1.alloc (.cells (Array.replicate 128 (.int .u8 0)) 5)) k 1 (.slice (some ⟨w1.heap.size, 0, none⟩) 128 128)
  have e : frameOf n l = ⟨n, zero128, 0, false⟩ := by unfold frameOf; rw [hp]; rfl
  rw [e]
  have hown : (w1.alloc (.cells (Array.replicate 128 (.int .u8 0)) 5)).ownsRow 0 5 1 (.slice (some ⟨w1.heap.size, 0, none⟩) 128 128) 128 (List.replicate 128 (.int .u8 0)) :=
    ⟨by simp, .inr ⟨w1.heap.size, 128, Array.replicate 128 (.int .u8 0), rfl, Nat.zero_le _, heap_alloc_new w1 _, Nat.le_refl _, by decide, by simp, by simp⟩⟩
  have hz : zero128.size = 128 := by simp [zero128, bytesOf_size]
  have hC : Content (w1.alloc (.cells (Array.replicate 128 (.int .u8 0)) 5)) (.slice (some ⟨w1.heap.size, 0, none⟩) 128 128) zero128 := by
    have := own_content (s := zero128) hown hz (by simp [zero128, byteVals, bytesOf, List.map_replicate])
    exact this
  refine ⟨⟨.slice (some ⟨w1.heap.size, 0, none⟩) 128 128, heap_setCell_same _ k 1 _ 93 _ h2, hC.turn ht2 (apart_of h2 (by decide))⟩, (ht1.trans (Turn.of_new hn)).trans ht2⟩
theorem New.under {w w1 w2 : World} {x : Nat} (h : New w w1) (ht : Turn (· = x) w1 w2) (hx : w.heap.size ≤ x := by exact Nat.le_refl _) : New w w2 := h.turned ht hx

set_option maxHeartbeats 1600000 in
set_option maxRecDepth 100000 in
theorem use_miss (w0 : World) (b : Nat) (ow : Option Nat) (tb : Nat) (ot : Option Nat) (pb : Nat) (os : Option Nat) (A : ADisk) (T : ATape) (P : APool) (n m : Nat) (w : World) (S : Sys w0 w b ow tb ot pb os A T P) (hall : ∀ p ∈ P.frames, p.2.page ≠ n) (hl : P.frames.length ≤ 100000) (hfull : P.frames.length ≠ P.size) (L : Lim A m) (hm : m ≤ 100000) (hrd : P.reads ≤ 1000000000) :
    Calls Tryz.prog 50 #[.pointer (some ⟨pb, 0, none⟩), .int .i64 (n : Int)] w (ReadIn w0 b ow tb ot pb os A T P n w) := by
  have N0 := hid ((New.refl w).alloc #[.int .i64 (n : Int)] 3)
  have S0 := hid (S.newer N0.out)
  have gb0 : (w.alloc (.cells #[.int .i64 (n : Int)] 3)).cell? ⟨w.heap.size, 0, none⟩ = some (.int .i64 (n : Int)) := cells_of (heap_alloc_new w _) 0
  have GB := hid gb0
  obtain ⟨p, c, e1, e2, e3⟩ := pool_open S0.out.pool
  have hc := cells_of e1
  unfold poolCells at hc
  have OWN := hid e3
  have HF : Hid (∀ p ∈ P.frames, FrameAt (w.alloc (.cells #[.int .i64 (n : Int)] 3)) p.1 p.2) := hid S0.out.pool.frames
  have HL := hid hl
  have HALL := hid hall
  have HRD := hid hrd
  have HFU := hid hfull
  have LL := hid L
  have LM := hid hm
  have HS := hid S
  clear S hl hall e1 e2 e3 gb0 hfull L hm hrd
  go_enter Tryz.func50, Tryz.ntmps50
  go_wp2_with fail
  refine (idxF_any _ P.frames (n : Int) w.heap.size _ OWN.out HF.out GB.out (by have := HL.out; omega)).mono ?_
  rintro e w1 ⟨n1, hcase⟩
  have he : e = .returned (.int .i64 (-1)) := by
    rcases hcase with ⟨he, _⟩ | ⟨j, hj, he, hp, hb⟩
    · exact he
    · exact absurd (by exact_mod_cast hp) (HALL.out _ (List.getElem_mem hj))
  subst he
  have S1 := hid (S0.out.newer n1)
  have N1 := hid (N0.out.trans n1)
  have GB1 : Hid (w1.cell? ⟨w.heap.size, 0, none⟩ = some (.int .i64 (n : Int))) := hid (by rw [n1.cell _ _ (World.block_lt_of_cell? _ _ GB.out)]; exact GB.out)
  clear hcase n1 hc HF GB OWN
  obtain ⟨p, c, e1, e2, e3⟩ := pool_open S1.out.pool
  have hc0 := cells_of e1
  unfold poolCells at hc0
  have lpb : pb < w1.heap.size := (Array.getElem?_eq_some_iff.1 e1).1
  have c3 : ∀ Q : After w1, Q.w.cell? ⟨pb, 3, none⟩ = some (.slice p P.frames.length c) := fun Q => by rw [Q.new.cell _ _ lpb]; exact hc0 3
  have c2 : ∀ Q : After w1, Q.w.cell? ⟨pb, 2, none⟩ = some (.int .i64 (P.size : Int)) := fun Q => by rw [Q.new.cell _ _ lpb]; exact hc0 2
  have q1 : ((P.frames.length : Int) == (P.size : Int)) = false := by have := HFU.out; simp; omega
  clear e1 e2 e3 hc0
  go_wp2_with fail
  refine wp_region_new (by kernel_rfl) (by kernel_rfl) ?_
  repeat (go_big_quiet_step (fail))
  refine wpQuiet_nil ?_
  rintro _ ⟨Q, rfl⟩
  have S2 := hid (S1.out.newer Q.new)
  have N2 := hid (N1.out.trans Q.new)
  have GB2 : Hid (Q.w.cell? ⟨w.heap.size, 0, none⟩ = some (.int .i64 (n : Int))) := hid (by rw [Q.new.cell _ _ (World.block_lt_of_cell? _ _ GB1.out)]; exact GB1.out)
  generalize Q.w = w2 at *
  clear c3 c2
  obtain ⟨p, c, hc, hf⟩ := pool_cells S2.out.pool
  have gb := GB2.out
  go_wp2_with fail
  go_region_with (go_at_call 11; refine (read_any b ow A (n : Int) _ (S2.out.log.disk.new (New.refl w2).drew) LL.out.small (by have := LL.out.waits; have := LM.out; omega)).mono ?_; rintro e w3 ⟨v3, rfl, hc3, hn3⟩)
  all_goals
    have ND := hid ((New.refl w2).drew.trans hn3)
    have S3 := hid (S2.out.newer ND.out)
    have N3 := hid (N2.out.trans ND.out)
    have C3 := hid hc3
    have gb := GB2.out
    rw [← ND.out.cell _ _ (World.block_lt_of_cell? _ _ GB2.out)] at gb
    clear hc hf hc3 hn3
    by_cases hre : readE A (n : Int) = 0
    case neg =>
      have q2 : (readE A (n : Int) == 0) = false := by simpa using hre
      have q3 : (readE A (n : Int) != 0) = true := by simpa using hre
      have HRE := hid hre
      clear hre
      go_wp2
      go_ret2
      exact .inl ⟨HRE.out, rfl, S3.out, N3.out⟩
    have HRE := hid hre
    rw [hre]
    clear hre
    obtain ⟨p3, k3, rfl, -⟩ := id C3.out.1
    have HSZ : Hid ((readB A (n : Int)).size ≤ 340) := hid (by
      unfold readB
      rw [if_pos HRE.out]
      refine LL.out.small.lay _ ?_
      have := HRE.out
      unfold readE isB at this
      by_cases h : (n : Int) < 3120
      · omega
      · simp [h] at this)
    have NF := hid ((New.refl w3).alloc #[.int .i64 (n : Int), .slice none 0 0, .int .i64 0, .bool false] 93)
    go_wp2_with fail
    refine (pageOf_any _ (readB A (n : Int)).data.toList _ (by rw [bytesOf_data]; exact C3.out.1.renew NF.out) (by have := HSZ.out; rw [← bytesOf_data (readB A (n : Int)), bytesOf_size] at this; omega)).mono ?_
    rintro e w4 ⟨p4, k4, c4, st4, er4, rfl, n4, hyes, hno⟩
    have N4 := hid n4
    have X4 : w4.heap[w3.heap.size]? = some (.cells #[.int .i64 (n : Int), .slice none 0 0, .int .i64 0, .bool false] 93 (0, 0)) := by
      rw [Below.block n4 _ (by simp)]; exact heap_alloc_new w3 _
    have HX4 := hid X4
    have m4 := cells_of X4
    have f4 := frozen_of X4
    clear n4 X4
    by_cases hpe : pageE (readB A (n : Int)).data.toList = true
    · obtain ⟨rfl, rfl, rfl, hct⟩ := hyes hpe
      have CT := hid hct
      have HPE := hid hpe
      clear hyes hno hct hpe
      have hfr := frame_read HX4.out (n := n) (l := (readB A (n : Int)).data.toList) CT.out HPE.out
      obtain ⟨F, hF⟩ : ∃ F, F = frameOf n (readB A (n : Int)).data.toList := ⟨_, rfl⟩
      rw [← hF] at hfr
      have HF2 := hid hF
      clear hF
      have HFR := hid hfr.1
      have NW := hid ((NF.out.trans N4.out).turned hfr.2 (Nat.le_refl _))
      clear hfr
      go_wp2_with fail
      generalize hwf : ((w4.setCell ⟨w3.heap.size, 1, none⟩ (.slice p4 128 c4)).setCell ⟨w3.heap.size, 2, none⟩ (.int .i64 (frontN (readB A (n : Int)).data.toList))) = wf at *
      clear hwf m4 f4
      have SF := hid (S3.out.newer NW.out)
      have lkf : w3.heap.size < wf.heap.size := HFR.out.lt
      obtain ⟨p, c, e1, e2, e3⟩ := pool_open SF.out.pool
      have hc0 := cells_of e1
      unfold poolCells at hc0
      have lpb : pb < wf.heap.size := (Array.getElem?_eq_some_iff.1 e1).1
      have c3 : ∀ Q : After wf, Q.w.cell? ⟨pb, 3, none⟩ = some (.slice p P.frames.length c) := fun Q => by rw [Q.new.cell _ _ lpb]; exact hc0 3
      have c2 : ∀ Q : After wf, Q.w.cell? ⟨pb, 2, none⟩ = some (.int .i64 (P.size : Int)) := fun Q => by rw [Q.new.cell _ _ lpb]; exact hc0 2
      have q1 : ((P.frames.length : Int) == (P.size : Int)) = false := by have := HFU.out; simp; omega
      clear e1 e2 e3 hc0
      refine wp_region_new (by kernel_rfl) (by kernel_rfl) ?_
      repeat (go_big_quiet_step (fail))
      refine wpQuiet_nil ?_
      rintro _ ⟨Q, rfl⟩
      have S6 := hid (SF.out.newer Q.new)
      have N6 := hid ((N3.out.trans NW.out).trans Q.new)
      have FR6 := hid (HFR.out.new Q.new)
      generalize Q.w = w6 at *
      clear c3 c2 q1 lpb lkf
      obtain ⟨p6, c6, e1, e2, e3⟩ := pool_open S6.out.pool
      have hc := cells_of e1
      unfold poolCells at hc
      have OWN := hid e3
      have E1 := hid e1
      have E2 := hid e2
      have NA := hid ((New.refl w6).alloc #[.pointer (some ⟨w3.heap.size, 0, none⟩)] 91)
      have X3 : (w6.alloc (.cells #[.pointer (some ⟨w3.heap.size, 0, none⟩)] 91)).heap[pb]? = some (.cells (poolCells b tb P.size (.slice p6 P.frames.length c6) P.reads) 90 (0, 0)) := by
        rw [Below.block NA.out _ (Array.getElem?_eq_some_iff.1 e1).1]; exact e1
      have HX3 := hid X3
      clear e1 e2 e3 X3
      go_wp2_with (at_builtin; refine app_frame rfl _ _ rfl 0 _ P.frames.length _ rfl (own_old OWN.out NA.out) ⟨w6.heap.size, 0, none⟩ w3.heap.size rfl ?cn ?cb ?cc ?_)
      case cn => exact cells_of (heap_alloc_new w6 _) 0
      case cb => have := HL.out; omega
      case cc => exact Nat.zero_le _
      intro v7 w7 own7 grow7 blk7
      obtain ⟨p7, c7, rfl⟩ := own_len own7
      have X7 : w7.heap[pb]? = some (.cells (poolCells b tb P.size (.slice p6 P.frames.length c6) P.reads) 90 (0, 0)) := by
        rw [grow7.block pb (Array.getElem?_eq_some_iff.1 HX3.out).1 (fun e => own_ne (own_old OWN.out NA.out) HX3.out (by decide) e.symm)]; exact HX3.out
      have m7 := cells_of X7
      unfold poolCells at m7
      have f7 := frozen_of X7
      have HX7 := hid X7
      have G7 := hid (grown_turn grow7)
      have B7 := hid blk7
      have OWN7 := hid own7
      clear grow7 blk7 own7 X7 hc
      have q4 : (P.reads : Int) ≤ 1000000000 := by have := HRD.out; omega
      go_wp2
      go_ret2
      have HRP : (readP P w3.heap.size F).frames = P.frames ++ [(w3.heap.size, F)] := by
        simp only [readP, if_neg HFU.out]
      have ht1 := turn_set w7 pb 3 (.slice p7 (P.frames.length + 1) c7)
      have ht2 := turn_set (w7.setCell ⟨pb, 3, none⟩ (.slice p7 (P.frames.length + 1) c7)) pb 4 (.int .i64 ((P.reads : Int) + 1))
      have hts := ht1.trans ht2
      have hX8 := heap_setCell_same _ pb 4 _ 90 (.int .i64 ((P.reads : Int) + 1)) (heap_setCell_same w7 pb 3 _ 90 (.slice p7 (P.frames.length + 1) c7) HX7.out)
      have hT6 : Turn (fun k => k = pb ∨ os = some k) w6 ((w7.setCell ⟨pb, 3, none⟩ (.slice p7 (P.frames.length + 1) c7)).setCell ⟨pb, 4, none⟩ (.int .i64 ((P.reads : Int) + 1))) :=
        ((Turn.of_new NA.out).trans (G7.out.mono fun k _ h => .inr (E2.out.symm.trans h))).trans (hts.mono fun k _ h => .inl h)
      have hown := own_turn OWN7.out hts (fun k hk e => own_ne OWN7.out HX7.out (by decide) (e ▸ hk))
      have hmemf : ∀ q ∈ (readP P w3.heap.size F).frames, q ∈ P.frames ∨ q = (w3.heap.size, F) := fun q hq => by
        rw [HRP] at hq
        simpa using hq
      have hos : ∀ k, (Value.slice p7 (P.frames.length + 1) c7).ownBlock = some k → os = some k ∨ w.heap.size ≤ k := fun k hk => by
        rcases B7.out with h | h
        · exact .inl (E2.out.symm.trans (h.symm.trans hk))
        · rw [hk] at h
          injection h with h
          refine .inr ?_
          rw [h]
          exact Nat.le_trans N6.out.size (by simp)
      have hold : ∀ q ∈ P.frames, q.1 < w3.heap.size := fun q hq => (S3.out.pool.frames q hq).lt
      refine .inr ⟨HRE.out, w3.heap.size, (Value.slice p7 (P.frames.length + 1) c7).ownBlock, N3.out.size, rfl, ?_, (Turn.of_new N6.out).trans hT6, hos⟩
      rw [← HF2.out]
      refine S6.out.laid hT6 (S6.out.pool.laid hT6 _ (readP P w3.heap.size F) ?_ ?_ ?_ ?_) ?_
      · rw [hX8]
        rfl
      · rw [HRP, List.length_append]
        have h2 : ptrVals (P.frames ++ [(w3.heap.size, F)]) = ptrVals P.frames ++ [.pointer (some ⟨w3.heap.size, 0, none⟩)] := by simp [ptrVals]
        rw [h2]
        exact hown
      · rw [HRP, List.map_append]
        refine List.nodup_append.2 ⟨S6.out.pool.nodup, by simp, ?_⟩
        intro a ha b' hb'
        obtain ⟨q, hq, rfl⟩ := List.mem_map.1 ha
        simp at hb'
        subst hb'
        have := hold q hq
        omega
      · intro q hq
        rcases hmemf q hq with h | rfl
        · exact .inl h
        · refine .inr (FR6.out.turn hT6 ?_ S6.out.pool.not5)
          rintro (e | e)
          · have := (Array.getElem?_eq_some_iff.1 E1.out).1
            obtain ⟨u, k0, -⟩ := FR6.out
            rw [e] at k0
            exact type_ne E1.out k0 (by decide) rfl
          · obtain ⟨u, k0, -⟩ := FR6.out
            exact own_ne OWN.out k0 (by decide) (E2.out.trans e)
      · rintro k (rfl | h | ⟨q, hq, rfl⟩)
        · exact HS.out.pp _ (.inl rfl)
        · rcases hos k h with h | h
          · exact HS.out.pp _ (.inr (.inl h))
          · exact Nat.le_trans HS.out.log.new.size h
        · rcases hmemf q hq with h | rfl
          · exact HS.out.pp _ (.inr (.inr ⟨q, h, rfl⟩))
          · exact Nat.le_trans HS.out.log.new.size N3.out.size
    · obtain ⟨rfl, rfl, hsl⟩ := hno (by simpa using hpe)
      injection hsl with hs1 hs2 hs3
      subst hs1
      subst hs2
      subst hs3
      have HPE := hid hpe
      clear hyes hno hpe
      have hfr := frame_zero HX4.out (n := n) (l := (readB A (n : Int)).data.toList) (by simpa using HPE.out)
      obtain ⟨F, hF⟩ : ∃ F, F = frameOf n (readB A (n : Int)).data.toList := ⟨_, rfl⟩
      rw [← hF] at hfr
      have HF2 := hid hF
      clear hF
      have HFR := hid hfr.1
      have NW := hid (New.under (NF.out.trans N4.out) hfr.2)
      clear hfr
      have hmk := make_zero
      have h5 := frame_mid HX4.out
      have m5 := cells_of h5
      have f5 := frozen_of h5
      clear h5
      go_wp2_with fail
      generalize hwf : ((((w4.setCell ⟨w3.heap.size, 1, none⟩ (.slice none 0 0)).setCell ⟨w3.heap.size, 2, none⟩ (.int .i64 0)).alloc (.cells (Array.replicate 128 (.int .u8 0)) 5)).setCell ⟨w3.heap.size, 1, none⟩ (.slice (some ⟨w4.heap.size, 0, none⟩) 128 128)) = wf at *
      clear hwf m4 f4 m5 f5 hmk
      have SF := hid (S3.out.newer NW.out)
      have lkf : w3.heap.size < wf.heap.size := HFR.out.lt
      obtain ⟨p, c, e1, e2, e3⟩ := pool_open SF.out.pool
      have hc0 := cells_of e1
      unfold poolCells at hc0
      have lpb : pb < wf.heap.size := (Array.getElem?_eq_some_iff.1 e1).1
      have c3 : ∀ Q : After wf, Q.w.cell? ⟨pb, 3, none⟩ = some (.slice p P.frames.length c) := fun Q => by rw [Q.new.cell _ _ lpb]; exact hc0 3
      have c2 : ∀ Q : After wf, Q.w.cell? ⟨pb, 2, none⟩ = some (.int .i64 (P.size : Int)) := fun Q => by rw [Q.new.cell _ _ lpb]; exact hc0 2
      have q1 : ((P.frames.length : Int) == (P.size : Int)) = false := by have := HFU.out; simp; omega
      clear e1 e2 e3 hc0
      refine wp_region_new (by kernel_rfl) (by kernel_rfl) ?_
      repeat (go_big_quiet_step (fail))
      refine wpQuiet_nil ?_
      rintro _ ⟨Q, rfl⟩
      have S6 := hid (SF.out.newer Q.new)
      have N6 := hid ((N3.out.trans NW.out).trans Q.new)
      have FR6 := hid (HFR.out.new Q.new)
      generalize Q.w = w6 at *
      clear c3 c2 q1 lpb lkf
      obtain ⟨p6, c6, e1, e2, e3⟩ := pool_open S6.out.pool
      have hc := cells_of e1
      unfold poolCells at hc
      have OWN := hid e3
      have E1 := hid e1
      have E2 := hid e2
      have NA := hid ((New.refl w6).alloc #[.pointer (some ⟨w3.heap.size, 0, none⟩)] 91)
      have X3 : (w6.alloc (.cells #[.pointer (some ⟨w3.heap.size, 0, none⟩)] 91)).heap[pb]? = some (.cells (poolCells b tb P.size (.slice p6 P.frames.length c6) P.reads) 90 (0, 0)) := by
        rw [Below.block NA.out _ (Array.getElem?_eq_some_iff.1 e1).1]; exact e1
      have HX3 := hid X3
      clear e1 e2 e3 X3
      go_wp2_with (at_builtin; refine app_frame rfl _ _ rfl 0 _ P.frames.length _ rfl (own_old OWN.out NA.out) ⟨w6.heap.size, 0, none⟩ w3.heap.size rfl ?cn ?cb ?cc ?_)
      case cn => exact cells_of (heap_alloc_new w6 _) 0
      case cb => have := HL.out; omega
      case cc => exact Nat.zero_le _
      intro v7 w7 own7 grow7 blk7
      obtain ⟨p7, c7, rfl⟩ := own_len own7
      have X7 : w7.heap[pb]? = some (.cells (poolCells b tb P.size (.slice p6 P.frames.length c6) P.reads) 90 (0, 0)) := by
        rw [grow7.block pb (Array.getElem?_eq_some_iff.1 HX3.out).1 (fun e => own_ne (own_old OWN.out NA.out) HX3.out (by decide) e.symm)]; exact HX3.out
      have m7 := cells_of X7
      unfold poolCells at m7
      have f7 := frozen_of X7
      have HX7 := hid X7
      have G7 := hid (grown_turn grow7)
      have B7 := hid blk7
      have OWN7 := hid own7
      clear grow7 blk7 own7 X7 hc
      have q4 : (P.reads : Int) ≤ 1000000000 := by have := HRD.out; omega
      go_wp2
      go_ret2
      have HRP : (readP P w3.heap.size F).frames = P.frames ++ [(w3.heap.size, F)] := by
        simp only [readP, if_neg HFU.out]
      have ht1 := turn_set w7 pb 3 (.slice p7 (P.frames.length + 1) c7)
      have ht2 := turn_set (w7.setCell ⟨pb, 3, none⟩ (.slice p7 (P.frames.length + 1) c7)) pb 4 (.int .i64 ((P.reads : Int) + 1))
      have hts := ht1.trans ht2
      have hX8 := heap_setCell_same _ pb 4 _ 90 (.int .i64 ((P.reads : Int) + 1)) (heap_setCell_same w7 pb 3 _ 90 (.slice p7 (P.frames.length + 1) c7) HX7.out)
      have hT6 : Turn (fun k => k = pb ∨ os = some k) w6 ((w7.setCell ⟨pb, 3, none⟩ (.slice p7 (P.frames.length + 1) c7)).setCell ⟨pb, 4, none⟩ (.int .i64 ((P.reads : Int) + 1))) :=
        ((Turn.of_new NA.out).trans (G7.out.mono fun k _ h => .inr (E2.out.symm.trans h))).trans (hts.mono fun k _ h => .inl h)
      have hown := own_turn OWN7.out hts (fun k hk e => own_ne OWN7.out HX7.out (by decide) (e ▸ hk))
      have hmemf : ∀ q ∈ (readP P w3.heap.size F).frames, q ∈ P.frames ∨ q = (w3.heap.size, F) := fun q hq => by
        rw [HRP] at hq
        simpa using hq
      have hos : ∀ k, (Value.slice p7 (P.frames.length + 1) c7).ownBlock = some k → os = some k ∨ w.heap.size ≤ k := fun k hk => by
        rcases B7.out with h | h
        · exact .inl (E2.out.symm.trans (h.symm.trans hk))
        · rw [hk] at h
          injection h with h
          refine .inr ?_
          rw [h]
          exact Nat.le_trans N6.out.size (by simp)
      have hold : ∀ q ∈ P.frames, q.1 < w3.heap.size := fun q hq => (S3.out.pool.frames q hq).lt
      refine .inr ⟨HRE.out, w3.heap.size, (Value.slice p7 (P.frames.length + 1) c7).ownBlock, N3.out.size, rfl, ?_, (Turn.of_new N6.out).trans hT6, hos⟩
      rw [← HF2.out]
      refine S6.out.laid hT6 (S6.out.pool.laid hT6 _ (readP P w3.heap.size F) ?_ ?_ ?_ ?_) ?_
      · rw [hX8]
        rfl
      · rw [HRP, List.length_append]
        have h2 : ptrVals (P.frames ++ [(w3.heap.size, F)]) = ptrVals P.frames ++ [.pointer (some ⟨w3.heap.size, 0, none⟩)] := by simp [ptrVals]
        rw [h2]
        exact hown
      · rw [HRP, List.map_append]
        refine List.nodup_append.2 ⟨S6.out.pool.nodup, by simp, ?_⟩
        intro a ha b' hb'
        obtain ⟨q, hq, rfl⟩ := List.mem_map.1 ha
        simp at hb'
        subst hb'
        have := hold q hq
        omega
      · intro q hq
        rcases hmemf q hq with h | rfl
        · exact .inl h
        · refine .inr (FR6.out.turn hT6 ?_ S6.out.pool.not5)
          rintro (e | e)
          · have := (Array.getElem?_eq_some_iff.1 E1.out).1
            obtain ⟨u, k0, -⟩ := FR6.out
            rw [e] at k0
            exact type_ne E1.out k0 (by decide) rfl
          · obtain ⟨u, k0, -⟩ := FR6.out
            exact own_ne OWN.out k0 (by decide) (E2.out.trans e)
      · rintro k (rfl | h | ⟨q, hq, rfl⟩)
        · exact HS.out.pp _ (.inl rfl)
        · rcases hos k h with h | h
          · exact HS.out.pp _ (.inr (.inl h))
          · exact Nat.le_trans HS.out.log.new.size h
        · rcases hmemf q hq with h | rfl
          · exact HS.out.pp _ (.inr (.inr ⟨q, h, rfl⟩))
          · exact Nat.le_trans HS.out.log.new.size N3.out.size

end Go.Proofs.YtdccbceaajnajaaGreat

namespace Go.Proofs.YtdccbceaajnajaaGreat
open Go.RowKit
set_option linter.unusedSimpArgs false
set_option linter.unusedVariables false

theorem delete0 (w : World) (base : Nat) (v : Value) (l : List (Nat × AFrame)) (hi : 0 < l.length) (h : w.ownsRow base 91 1 v l.length (ptrVals l)) (hl : l.length ≤ 1000000) :
    Calls Tryz.prog 82 #[v, .int .i64 0, .int .i64 1] w fun e w' => ∃ v', e = .returned v' ∧ v'.ownBlock = v.ownBlock ∧ w'.ownsRow base 91 1 v' (l.length - 1) (ptrVals (l.eraseIdx 0)) ∧ Turn (fun k => v.ownBlock = some k) w w' ∧ w'.heap.size = w.heap.size :=
  delete_any w base v l 0 hi h hl
/-- Behind a use of a page that no frame of a full pool has. -/
def UseFull (w0 : World) (b : Nat) (ow : Option Nat) (tb : Nat) (ot : Option Nat) (pb : Nat) (os : Option Nat) (A : ADisk) (T : ATape) (P : APool) (x : Nat × AFrame) (n : Nat) (w : World) (e : Ending) (w' : World) : Prop :=
  ∃ ow1 w1, Sys w0 w1 b ow1 tb ot pb os (outA A T x.2) (outT A T x.2) (setF P x.1 (outF A T x.2)) ∧ Turn (fun j => logs b ow tb ot j ∨ j = x.1) w w1 ∧ (∀ k, ow1 = some k → ow = some k ∨ w.heap.size ≤ k) ∧
    ((outE A T x.2 ≠ 0 ∧ e = .returned (.tuple #[.pointer none, .int .i64 (outE A T x.2)]) ∧ w' = w1) ∨ (outE A T x.2 = 0 ∧ ReadIn w0 b ow1 tb ot pb os (outA A T x.2) (outT A T x.2) (setF P x.1 (outF A T x.2)) n w1 e w'))
theorem Lim.out {A : ADisk} {m : Nat} (h : Lim A m) (T : ATape) (f : AFrame) : Lim (outA A T f) (m + 2) := by
  have h1 : Lim (outA1 A T f) (m + 1) := by
    unfold outA1
    split
    · exact h.force T
    · exact h.mono (by omega)
  unfold outA
  split
  · split
    · exact h1.write _ _
    · exact h1.mono (by omega)
  · exact h.mono (by omega)

set_option maxHeartbeats 1600000 in
set_option maxRecDepth 100000 in
theorem use_full (w0 : World) (b : Nat) (ow : Option Nat) (tb : Nat) (ot : Option Nat) (pb : Nat) (os : Option Nat) (A : ADisk) (T : ATape) (P : APool) (x : Nat × AFrame) (n m : Nat) (w : World) (S : Sys w0 w b ow tb ot pb os A T P) (hall : ∀ p ∈ P.frames, p.2.page ≠ n) (hl : P.frames.length ≤ 100000) (hfull : P.frames.length = P.size) (hx : P.frames[0]? = some x) (ok : FrameOk x.2) (L : Lim A m) (hm : m ≤ 90000) (hrd : P.reads ≤ 1000000000) :
    Calls Tryz.prog 50 #[.pointer (some ⟨pb, 0, none⟩), .int .i64 (n : Int)] w (UseFull w0 b ow tb ot pb os A T P x n w) := by
  have N0 := hid ((New.refl w).alloc #[.int .i64 (n : Int)] 3)
  have S0 := hid (S.newer N0.out)
  have gb0 : (w.alloc (.cells #[.int .i64 (n : Int)] 3)).cell? ⟨w.heap.size, 0, none⟩ = some (.int .i64 (n : Int)) := cells_of (heap_alloc_new w _) 0
  have GB := hid gb0
  have BX := hid (heap_alloc_new w (.cells #[.int .i64 (n : Int)] 3))
  have LB : Hid (w.heap.size < (w.alloc (.cells #[.int .i64 (n : Int)] 3)).heap.size) := hid (by simp)
  obtain ⟨p, c, e1, e2, e3⟩ := pool_open S0.out.pool
  have hc := cells_of e1
  unfold poolCells at hc
  have OWN := hid e3
  have HF : Hid (∀ p ∈ P.frames, FrameAt (w.alloc (.cells #[.int .i64 (n : Int)] 3)) p.1 p.2) := hid S0.out.pool.frames
  have HL0 := hid hl
  have HALL := hid hall
  have HRD0 := hid hrd
  have HFU0 := hid hfull
  have HX := hid hx
  have HOK := hid ok
  have LL0 := hid L
  have LM0 := hid hm
  have HS := hid S
  clear S hl hall e1 e2 e3 gb0 hfull L hm hrd hx ok
  go_enter Tryz.func50, Tryz.ntmps50
  go_wp2_with fail
  refine (idxF_any _ P.frames (n : Int) w.heap.size _ OWN.out HF.out GB.out (by have := HL0.out; omega)).mono ?_
  rintro e w1 ⟨n1, hcase⟩
  have he : e = .returned (.int .i64 (-1)) := by
    rcases hcase with ⟨he, _⟩ | ⟨j, hj, he, hp, hb⟩
    · exact he
    · exact absurd (by exact_mod_cast hp) (HALL.out _ (List.getElem_mem hj))
  subst he
  have S1 := hid (S0.out.newer n1)
  have N1 := hid (N0.out.trans n1)
  have BX1 : Hid (w1.heap[w.heap.size]? = some (.cells #[.int .i64 (n : Int)] 3 (0, 0))) := hid ((Below.block n1 _ LB.out).trans BX.out)
  have GB1 : Hid (w1.cell? ⟨w.heap.size, 0, none⟩ = some (.int .i64 (n : Int))) := hid (by rw [n1.cell _ _ (World.block_lt_of_cell? _ _ GB.out)]; exact GB.out)
  clear hcase n1 hc HF GB OWN
  obtain ⟨p, c, e1, e2, e3⟩ := pool_open S1.out.pool
  have hc0 := cells_of e1
  unfold poolCells at hc0
  have lpb : pb < w1.heap.size := (Array.getElem?_eq_some_iff.1 e1).1
  have c3 : ∀ Q : After w1, Q.w.cell? ⟨pb, 3, none⟩ = some (.slice p P.frames.length c) := fun Q => by rw [Q.new.cell _ _ lpb]; exact hc0 3
  have c2 : ∀ Q : After w1, Q.w.cell? ⟨pb, 2, none⟩ = some (.int .i64 (P.size : Int)) := fun Q => by rw [Q.new.cell _ _ lpb]; exact hc0 2
  have q1 : ((P.frames.length : Int) == (P.size : Int)) = true := by have := HFU0.out; simp; omega
  clear e1 e2 e3 hc0
  go_wp2_with fail
  refine wp_region_new (by kernel_rfl) (by kernel_rfl) ?_
  repeat (go_big_quiet_step (fail))
  refine wpQuiet_nil ?_
  rintro _ ⟨Q, rfl⟩
  have SA := hid (S1.out.newer Q.new)
  have N2a := hid (N1.out.trans Q.new)
  have BX2 : Hid (Q.w.heap[w.heap.size]? = some (.cells #[.int .i64 (n : Int)] 3 (0, 0))) := hid ((Below.block Q.new _ (Array.getElem?_eq_some_iff.1 BX1.out).1).trans BX1.out)
  have GB2 : Hid (Q.w.cell? ⟨w.heap.size, 0, none⟩ = some (.int .i64 (n : Int))) := hid (by rw [Q.new.cell _ _ (World.block_lt_of_cell? _ _ GB1.out)]; exact GB1.out)
  generalize Q.w = wa at *
  clear c3 c2
  obtain ⟨p, c, e1, e2, e3⟩ := pool_open SA.out.pool
  have hc := cells_of e1
  unfold poolCells at hc
  have hlen0 : 0 < P.frames.length := (List.getElem?_eq_some_iff.1 HX.out).1
  have HN0 := hid hlen0
  obtain ⟨g, cap, e4, _, _⟩ := e3.form (by omega)
  injection e4 with e5 e6 e7
  subst e5
  have d0 := e3.cellAt 0 (by omega)
  have x0 : (ptrVals P.frames)[0]? = some (.pointer (some ⟨x.1, 0, none⟩)) := by
    simp only [ptrVals, List.getElem?_map]
    rw [HX.out]
    rfl
  rw [x0] at d0
  have q8 : (0 : Int) < (P.frames.length : Int) := by omega
  clear e1 e2 e3 x0 e6 e7 q1
  go_wp2_with fail
  refine (out_any w0 b ow tb ot pb os A T P x.1 x.2 m _ SA.out (List.mem_of_getElem? HX.out) HOK.out LL0.out (by have := LM0.out; omega)).mono ?_
  rintro e w2 ⟨ow1, rfl, hs2, ht2, how2⟩
  have hkx : ∃ c, wa.heap[x.1]? = some (.cells c 93 (0, 0)) := by
    obtain ⟨u, k0, -⟩ := SA.out.pool.frames _ (List.mem_of_getElem? HX.out)
    exact ⟨_, k0⟩
  have BX3 : Hid (w2.heap[w.heap.size]? = some (.cells #[.int .i64 (n : Int)] 3 (0, 0))) := hid (by
    rw [ht2.block _ (Array.getElem?_eq_some_iff.1 BX2.out).1 (fun h => ?_)]
    · exact BX2.out
    · rcases h with h | h
      · exact logs_not SA.out.log BX2.out (by decide) (by decide) (by decide) (by decide) h
      · obtain ⟨c, hk⟩ := hkx
        rw [h] at BX2
        exact type_ne hk BX2.out (by decide) rfl)
  have GB2 : Hid (w2.cell? ⟨w.heap.size, 0, none⟩ = some (.int .i64 (n : Int))) := hid (cells_of BX3.out 0)
  have TW := hid ((Turn.of_new (S := fun j => logs b ow tb ot j ∨ j = x.1) N2a.out).trans ht2)
  have OW : Hid (∀ k, ow1 = some k → ow = some k ∨ w.heap.size ≤ k) := hid fun k hk => (how2 k hk).imp id (Nat.le_trans N2a.out.size)
  have S2 := hid hs2
  clear hs2 ht2 how2 hkx hc d0 q8 hlen0
  by_cases hoe : outE A T x.2 = 0
  case neg =>
    have q2 : (outE A T x.2 == 0) = false := by simpa using hoe
    have q3 : (outE A T x.2 != 0) = true := by simpa using hoe
    have HOE := hid hoe
    clear hoe
    go_wp2
    go_ret2
    exact ⟨ow1, w2, S2.out, TW.out, OW.out, .inl ⟨HOE.out, rfl, rfl⟩⟩
  rw [hoe]
  have HFIN : Hid (∀ e w', ReadIn w0 b ow1 tb ot pb os (outA A T x.2) (outT A T x.2) (setF P x.1 (outF A T x.2)) n w2 e w' → UseFull w0 b ow tb ot pb os A T P x n w e w') := hid fun e w' h => ⟨ow1, w2, S2.out, TW.out, OW.out, .inr ⟨hoe, h⟩⟩
  clear hoe
  have HFU : Hid ((setF P x.1 (outF A T x.2)).frames.length = (setF P x.1 (outF A T x.2)).size) := hid ((setF_length _ _ _).trans HFU0.out)
  have HL : Hid ((setF P x.1 (outF A T x.2)).frames.length ≤ 100000) := hid (by rw [setF_length]; exact HL0.out)
  have HNE : Hid (0 < (setF P x.1 (outF A T x.2)).frames.length) := hid (by rw [setF_length]; exact HN0.out)
  have HRD : Hid ((setF P x.1 (outF A T x.2)).reads ≤ 1000000000) := hid HRD0.out
  have LL := hid (LL0.out.out T x.2)
  have LM : Hid (m + 2 ≤ 100000) := hid (by have := LM0.out; omega)
  have N2 := hid (New.refl w2)
  generalize setF P x.1 (outF A T x.2) = P1 at *
  generalize outA A T x.2 = A1 at *
  generalize outT A T x.2 = T1 at *
  clear HFU0 HL0 HN0 HRD0 LL0 LM0 SA S1 S0 N0 N1 N2a GB1 BX BX1 BX2 LB TW OW HALL HX HOK
  obtain ⟨p, c, hc, hf⟩ := pool_cells S2.out.pool
  have gb := GB2.out
  go_wp2_with fail
  go_region_with (go_at_call 11; refine (read_any b ow1 A1 (n : Int) _ (S2.out.log.disk.new (New.refl w2).drew) LL.out.small (by have := LL.out.waits; have := LM.out; omega)).mono ?_; rintro e w3 ⟨v3, rfl, hc3, hn3⟩)
  all_goals
    have ND := hid ((New.refl w2).drew.trans hn3)
    have S3 := hid (S2.out.newer ND.out)
    have N3 := hid (N2.out.trans ND.out)
    have C3 := hid hc3
    have gb := GB2.out
    rw [← ND.out.cell _ _ (World.block_lt_of_cell? _ _ GB2.out)] at gb
    clear hc hf hc3 hn3
    by_cases hre : readE A1 (n : Int) = 0
    case neg =>
      have q2 : (readE A1 (n : Int) == 0) = false := by simpa using hre
      have q3 : (readE A1 (n : Int) != 0) = true := by simpa using hre
      have HRE := hid hre
      clear hre
      go_wp2
      go_ret2
      exact HFIN.out _ _ (.inl ⟨HRE.out, rfl, S3.out, N3.out⟩)
    have HRE := hid hre
    rw [hre]
    clear hre
    obtain ⟨p3, k3, rfl, -⟩ := id C3.out.1
    have HSZ : Hid ((readB A1 (n : Int)).size ≤ 340) := hid (by
      unfold readB
      rw [if_pos HRE.out]
      refine LL.out.small.lay _ ?_
      have := HRE.out
      unfold readE isB at this
      by_cases h : (n : Int) < 3120
      · omega
      · simp [h] at this)
    have NF := hid ((New.refl w3).alloc #[.int .i64 (n : Int), .slice none 0 0, .int .i64 0, .bool false] 93)
    go_wp2_with fail
    refine (pageOf_any _ (readB A1 (n : Int)).data.toList _ (by rw [bytesOf_data]; exact C3.out.1.renew NF.out) (by have := HSZ.out; rw [← bytesOf_data (readB A1 (n : Int)), bytesOf_size] at this; omega)).mono ?_
    rintro e w4 ⟨p4, k4, c4, st4, er4, rfl, n4, hyes, hno⟩
    have N4 := hid n4
    have X4 : w4.heap[w3.heap.size]? = some (.cells #[.int .i64 (n : Int), .slice none 0 0, .int .i64 0, .bool false] 93 (0, 0)) := by
      rw [Below.block n4 _ (by simp)]; exact heap_alloc_new w3 _
    have HX4 := hid X4
    have m4 := cells_of X4
    have f4 := frozen_of X4
    clear n4 X4
    by_cases hpe : pageE (readB A1 (n : Int)).data.toList = true
    · obtain ⟨rfl, rfl, rfl, hct⟩ := hyes hpe
      have CT := hid hct
      have HPE := hid hpe
      clear hyes hno hct hpe
      have hfr := frame_read HX4.out (n := n) (l := (readB A1 (n : Int)).data.toList) CT.out HPE.out
      obtain ⟨F, hF⟩ : ∃ F, F = frameOf n (readB A1 (n : Int)).data.toList := ⟨_, rfl⟩
      rw [← hF] at hfr
      have HF2 := hid hF
      clear hF
      have HFR := hid hfr.1
      have NW := hid ((NF.out.trans N4.out).turned hfr.2 (Nat.le_refl _))
      clear hfr
      go_wp2_with fail
      generalize hwf : ((w4.setCell ⟨w3.heap.size, 1, none⟩ (.slice p4 128 c4)).setCell ⟨w3.heap.size, 2, none⟩ (.int .i64 (frontN (readB A1 (n : Int)).data.toList))) = wf at *
      clear hwf m4 f4
      have SF := hid (S3.out.newer NW.out)
      have lkf : w3.heap.size < wf.heap.size := HFR.out.lt
      obtain ⟨p, c, e1, e2, e3⟩ := pool_open SF.out.pool
      have hc0 := cells_of e1
      unfold poolCells at hc0
      have lpb : pb < wf.heap.size := (Array.getElem?_eq_some_iff.1 e1).1
      have c3 : ∀ Q : After wf, Q.w.cell? ⟨pb, 3, none⟩ = some (.slice p P1.frames.length c) := fun Q => by rw [Q.new.cell _ _ lpb]; exact hc0 3
      have c2 : ∀ Q : After wf, Q.w.cell? ⟨pb, 2, none⟩ = some (.int .i64 (P1.size : Int)) := fun Q => by rw [Q.new.cell _ _ lpb]; exact hc0 2
      have q1 : ((P1.frames.length : Int) == (P1.size : Int)) = true := by have := HFU.out; simp; omega
      clear e1 e2 e3 hc0
      refine wp_region_new (by kernel_rfl) (by kernel_rfl) ?_
      repeat (go_big_quiet_step (fail))
      refine wpQuiet_nil ?_
      rintro _ ⟨Q, rfl⟩
      have S6 := hid (SF.out.newer Q.new)
      have N6 := hid ((N3.out.trans NW.out).trans Q.new)
      have FR6 := hid (HFR.out.new Q.new)
      generalize Q.w = w6 at *
      clear c3 c2 q1 lpb lkf
      obtain ⟨p6, c6, e1, e2, e3⟩ := pool_open S6.out.pool
      have hc := cells_of e1
      unfold poolCells at hc
      have OWN := hid e3
      have E1 := hid e1
      have E2 := hid e2
      have q5 := HL.out
      have q6 := HNE.out
      go_wp2_with fail
      refine (delete0 _ 0 _ P1.frames HNE.out OWN.out (by have := HL.out; omega)).mono ?_
      rintro e w9 ⟨v9, rfl, hv9, own9, t9, sz9⟩
      obtain ⟨p9, c9, rfl⟩ := own_len own9
      have hnp : ∀ k, (Value.slice p6 P1.frames.length c6).ownBlock = some k → ¬ k = pb := fun k hk e => own_ne OWN.out E1.out (by decide) (e ▸ hk)
      have E29 : Hid ((Value.slice p9 (P1.frames.length - 1) c9).ownBlock = os) := hid (hv9.trans E2.out)
      have X9 : w9.heap[pb]? = some (.cells (poolCells b tb P1.size (.slice p6 P1.frames.length c6) P1.reads) 90 (0, 0)) := by
        rw [t9.block pb (Array.getElem?_eq_some_iff.1 E1.out).1 (fun e => hnp pb e rfl)]; exact E1.out
      have T9 : Hid (Turn (fun k => k = pb ∨ os = some k) w6 w9) := hid (t9.mono fun k _ h => .inr (E2.out.symm.trans h))
      have m9 := cells_of X9
      unfold poolCells at m9
      have f9 := frozen_of X9
      have ht9 := turn_set w9 pb 3 (.slice p9 (P1.frames.length - 1) c9)
      have OWN9 : Hid ((w9.setCell ⟨pb, 3, none⟩ (.slice p9 (P1.frames.length - 1) c9)).ownsRow 0 91 1 (.slice p9 (P1.frames.length - 1) c9) (P1.frames.length - 1) (ptrVals (P1.frames.eraseIdx 0))) := hid (own_turn own9 ht9 (fun k hk e => own_ne own9 X9 (by decide) (e ▸ hk)))
      have X10 : (w9.setCell ⟨pb, 3, none⟩ (.slice p9 (P1.frames.length - 1) c9)).heap[pb]? = some (.cells (poolCells b tb P1.size (.slice p9 (P1.frames.length - 1) c9) P1.reads) 90 (0, 0)) := heap_setCell_same w9 pb 3 _ 90 _ X9
      have T10 : Hid (Turn (fun k => k = pb ∨ os = some k) w6 (w9.setCell ⟨pb, 3, none⟩ (.slice p9 (P1.frames.length - 1) c9))) := hid (T9.out.trans (ht9.mono fun k _ h => .inl h))
      have HX10 := hid X10
      have q7 : P1.frames.length - 1 ≤ 100000 := by omega
      clear hc hv9 own9 t9 sz9 X9 ht9 X10 q5 q6
      have SZ : Hid ((w9.setCell ⟨pb, 3, none⟩ (.slice p9 (P1.frames.length - 1) c9)).heap.size = w9.heap.size) := hid (by simp)
      have NA := hid ((New.refl (w9.setCell ⟨pb, 3, none⟩ (.slice p9 (P1.frames.length - 1) c9))).alloc #[.pointer (some ⟨w3.heap.size, 0, none⟩)] 91)
      have X3 : ((w9.setCell ⟨pb, 3, none⟩ (.slice p9 (P1.frames.length - 1) c9)).alloc (.cells #[.pointer (some ⟨w3.heap.size, 0, none⟩)] 91)).heap[pb]? = some (.cells (poolCells b tb P1.size (.slice p9 (P1.frames.length - 1) c9) P1.reads) 90 (0, 0)) := by
        rw [Below.block NA.out _ (Array.getElem?_eq_some_iff.1 HX10.out).1]; exact HX10.out
      have HX3 := hid X3
      clear X3
      go_wp2_with (at_builtin; refine app_frame rfl _ _ rfl 0 _ (P1.frames.length - 1) _ rfl (own_old OWN9.out NA.out) ⟨w9.heap.size, 0, none⟩ w3.heap.size rfl ?cn ?cb ?cc ?_)
      case cn =>
        have h := cells_of (heap_alloc_new (w9.setCell ⟨pb, 3, none⟩ (.slice p9 (P1.frames.length - 1) c9)) (.cells #[.pointer (some ⟨w3.heap.size, 0, none⟩)] 91)) 0
        rw [SZ.out] at h
        exact h
      case cb => have := HL.out; omega
      case cc => exact Nat.zero_le _
      intro v7 w7 own7 grow7 blk7
      obtain ⟨p7, c7, rfl⟩ := own_len own7
      have X7 : w7.heap[pb]? = some (.cells (poolCells b tb P1.size (.slice p9 (P1.frames.length - 1) c9) P1.reads) 90 (0, 0)) := by
        rw [grow7.block pb (Array.getElem?_eq_some_iff.1 HX3.out).1 (fun e => own_ne (own_old OWN9.out NA.out) HX3.out (by decide) e.symm)]; exact HX3.out
      have m7 := cells_of X7
      unfold poolCells at m7
      have f7 := frozen_of X7
      have HX7 := hid X7
      have G7 := hid (grown_turn grow7)
      have B7 := hid blk7
      have OWN7 := hid own7
      clear grow7 blk7 own7 X7 m9 f9
      have q4 : (P1.reads : Int) ≤ 1000000000 := by have := HRD.out; omega
      go_wp2
      go_ret2
      have HRP : (readP P1 w3.heap.size F).frames = P1.frames.drop 1 ++ [(w3.heap.size, F)] := by
        simp only [readP, if_pos HFU.out]
      have ht1 := turn_set w7 pb 3 (.slice p7 (P1.frames.length - 1 + 1) c7)
      have ht2 := turn_set (w7.setCell ⟨pb, 3, none⟩ (.slice p7 (P1.frames.length - 1 + 1) c7)) pb 4 (.int .i64 ((P1.reads : Int) + 1))
      have hts := ht1.trans ht2
      have hX8 := heap_setCell_same _ pb 4 _ 90 (.int .i64 ((P1.reads : Int) + 1)) (heap_setCell_same w7 pb 3 _ 90 (.slice p7 (P1.frames.length - 1 + 1) c7) HX7.out)
      have hT6 : Turn (fun k => k = pb ∨ os = some k) w6 ((w7.setCell ⟨pb, 3, none⟩ (.slice p7 (P1.frames.length - 1 + 1) c7)).setCell ⟨pb, 4, none⟩ (.int .i64 ((P1.reads : Int) + 1))) :=
        (T10.out.trans ((Turn.of_new NA.out).trans (G7.out.mono fun k _ h => .inr (E29.out.symm.trans h)))).trans (hts.mono fun k _ h => .inl h)
      have hown := own_turn OWN7.out hts (fun k hk e => own_ne OWN7.out HX7.out (by decide) (e ▸ hk))
      have hmemf : ∀ q ∈ (readP P1 w3.heap.size F).frames, q ∈ P1.frames ∨ q = (w3.heap.size, F) := fun q hq => by
        rw [HRP] at hq
        rcases List.mem_append.1 hq with h | h
        · exact .inl (List.mem_of_mem_drop h)
        · exact .inr (by simpa using h)
      have hos : ∀ k, (Value.slice p7 (P1.frames.length - 1 + 1) c7).ownBlock = some k → os = some k ∨ w2.heap.size ≤ k := fun k hk => by
        rcases B7.out with h | h
        · exact .inl (E29.out.symm.trans (h.symm.trans hk))
        · rw [hk] at h
          injection h with h
          refine .inr ?_
          rw [h]
          exact Nat.le_trans N6.out.size (Nat.le_trans T10.out.size (by simp))
      have hold : ∀ q ∈ P1.frames, q.1 < w3.heap.size := fun q hq => (S3.out.pool.frames q hq).lt
      refine HFIN.out _ _ (.inr ⟨HRE.out, w3.heap.size, (Value.slice p7 (P1.frames.length - 1 + 1) c7).ownBlock, N3.out.size, rfl, ?_, (Turn.of_new N6.out).trans hT6, hos⟩)
      rw [← HF2.out]
      refine S6.out.laid hT6 (S6.out.pool.laid hT6 _ (readP P1 w3.heap.size F) ?_ ?_ ?_ ?_) ?_
      · rw [hX8]
        rfl
      · rw [HRP, List.length_append, List.length_drop]
        have h2 : ptrVals (P1.frames.drop 1 ++ [(w3.heap.size, F)]) = ptrVals (P1.frames.eraseIdx 0) ++ [.pointer (some ⟨w3.heap.size, 0, none⟩)] := by simp [ptrVals]
        rw [h2, List.eraseIdx_zero]
        exact hown
      · rw [HRP, List.map_append]
        refine List.nodup_append.2 ⟨List.Pairwise.sublist (List.Sublist.map _ (List.drop_sublist 1 _)) S6.out.pool.nodup, by simp, ?_⟩
        intro a ha b' hb'
        obtain ⟨q, hq, rfl⟩ := List.mem_map.1 ha
        simp at hb'
        subst hb'
        have := hold q (List.mem_of_mem_drop hq)
        omega
      · intro q hq
        rcases hmemf q hq with h | rfl
        · exact .inl h
        · refine .inr (FR6.out.turn hT6 ?_ S6.out.pool.not5)
          rintro (e | e)
          · have := (Array.getElem?_eq_some_iff.1 E1.out).1
            obtain ⟨u, k0, -⟩ := FR6.out
            rw [e] at k0
            exact type_ne E1.out k0 (by decide) rfl
          · obtain ⟨u, k0, -⟩ := FR6.out
            exact own_ne OWN.out k0 (by decide) (E2.out.trans e)
      · rintro k (rfl | h | ⟨q, hq, rfl⟩)
        · exact S2.out.pp _ (.inl rfl)
        · rcases hos k h with h | h
          · exact S2.out.pp _ (.inr (.inl h))
          · exact Nat.le_trans S2.out.log.new.size h
        · rcases hmemf q hq with h | rfl
          · exact S2.out.pp _ (.inr (.inr ⟨q, h, rfl⟩))
          · exact Nat.le_trans S2.out.log.new.size N3.out.size
    · obtain ⟨rfl, rfl, hsl⟩ := hno (by simpa using hpe)
      injection hsl with hs1 hs2 hs3
      subst hs1
      subst hs2
      subst hs3
      have HPE := hid hpe
      clear hyes hno hpe
      have hfr := frame_zero HX4.out (n := n) (l := (readB A1 (n : Int)).data.toList) (by simpa using HPE.out)
      obtain ⟨F, hF⟩ : ∃ F, F = frameOf n (readB A1 (n : Int)).data.toList := ⟨_, rfl⟩
      rw [← hF] at hfr
      have HF2 := hid hF
      clear hF
      have HFR := hid hfr.1
      have NW := hid (New.under (NF.out.trans N4.out) hfr.2)
      clear hfr
      have hmk := make_zero
      have h5 := frame_mid HX4.out
      have m5 := cells_of h5
      have f5 := frozen_of h5
      clear h5
      go_wp2_with fail
      generalize hwf : ((((w4.setCell ⟨w3.heap.size, 1, none⟩ (.slice none 0 0)).setCell ⟨w3.heap.size, 2, none⟩ (.int .i64 0)).alloc (.cells (Array.replicate 128 (.int .u8 0)) 5)).setCell ⟨w3.heap.size, 1, none⟩ (.slice (some ⟨w4.heap.size, 0, none⟩) 128 128)) = wf at *
      clear hwf m4 f4 m5 f5 hmk
      have SF := hid (S3.out.newer NW.out)
      have lkf : w3.heap.size < wf.heap.size := HFR.out.lt
      obtain ⟨p, c, e1, e2, e3⟩ := pool_open SF.out.pool
      have hc0 := cells_of e1
      unfold poolCells at hc0
      have lpb : pb < wf.heap.size := (Array.getElem?_eq_some_iff.1 e1).1
      have c3 : ∀ Q : After wf, Q.w.cell? ⟨pb, 3, none⟩ = some (.slice p P1.frames.length c) := fun Q => by rw [Q.new.cell _ _ lpb]; exact hc0 3
      have c2 : ∀ Q : After wf, Q.w.cell? ⟨pb, 2, none⟩ = some (.int .i64 (P1.size : Int)) := fun Q => by rw [Q.new.cell _ _ lpb]; exact hc0 2
      have q1 : ((P1.frames.length : Int) == (P1.size : Int)) = true := by have := HFU.out; simp; omega
      clear e1 e2 e3 hc0
      refine wp_region_new (by kernel_rfl) (by kernel_rfl) ?_
      repeat (go_big_quiet_step (fail))
      refine wpQuiet_nil ?_
      rintro _ ⟨Q, rfl⟩
      have S6 := hid (SF.out.newer Q.new)
      have N6 := hid ((N3.out.trans NW.out).trans Q.new)
      have FR6 := hid (HFR.out.new Q.new)
      generalize Q.w = w6 at *
      clear c3 c2 q1 lpb lkf
      obtain ⟨p6, c6, e1, e2, e3⟩ := pool_open S6.out.pool
      have hc := cells_of e1
      unfold poolCells at hc
      have OWN := hid e3
      have E1 := hid e1
      have E2 := hid e2
      have q5 := HL.out
      have q6 := HNE.out
      go_wp2_with fail
      refine (delete0 _ 0 _ P1.frames HNE.out OWN.out (by have := HL.out; omega)).mono ?_
      rintro e w9 ⟨v9, rfl, hv9, own9, t9, sz9⟩
      obtain ⟨p9, c9, rfl⟩ := own_len own9
      have hnp : ∀ k, (Value.slice p6 P1.frames.length c6).ownBlock = some k → ¬ k = pb := fun k hk e => own_ne OWN.out E1.out (by decide) (e ▸ hk)
      have E29 : Hid ((Value.slice p9 (P1.frames.length - 1) c9).ownBlock = os) := hid (hv9.trans E2.out)
      have X9 : w9.heap[pb]? = some (.cells (poolCells b tb P1.size (.slice p6 P1.frames.length c6) P1.reads) 90 (0, 0)) := by
        rw [t9.block pb (Array.getElem?_eq_some_iff.1 E1.out).1 (fun e => hnp pb e rfl)]; exact E1.out
      have T9 : Hid (Turn (fun k => k = pb ∨ os = some k) w6 w9) := hid (t9.mono fun k _ h => .inr (E2.out.symm.trans h))
      have m9 := cells_of X9
      unfold poolCells at m9
      have f9 := frozen_of X9
      have ht9 := turn_set w9 pb 3 (.slice p9 (P1.frames.length - 1) c9)
      have OWN9 : Hid ((w9.setCell ⟨pb, 3, none⟩ (.slice p9 (P1.frames.length - 1) c9)).ownsRow 0 91 1 (.slice p9 (P1.frames.length - 1) c9) (P1.frames.length - 1) (ptrVals (P1.frames.eraseIdx 0))) := hid (own_turn own9 ht9 (fun k hk e => own_ne own9 X9 (by decide) (e ▸ hk)))
      have X10 : (w9.setCell ⟨pb, 3, none⟩ (.slice p9 (P1.frames.length - 1) c9)).heap[pb]? = some (.cells (poolCells b tb P1.size (.slice p9 (P1.frames.length - 1) c9) P1.reads) 90 (0, 0)) := heap_setCell_same w9 pb 3 _ 90 _ X9
      have T10 : Hid (Turn (fun k => k = pb ∨ os = some k) w6 (w9.setCell ⟨pb, 3, none⟩ (.slice p9 (P1.frames.length - 1) c9))) := hid (T9.out.trans (ht9.mono fun k _ h => .inl h))
      have HX10 := hid X10
      have q7 : P1.frames.length - 1 ≤ 100000 := by omega
      clear hc hv9 own9 t9 sz9 X9 ht9 X10 q5 q6
      have SZ : Hid ((w9.setCell ⟨pb, 3, none⟩ (.slice p9 (P1.frames.length - 1) c9)).heap.size = w9.heap.size) := hid (by simp)
      have NA := hid ((New.refl (w9.setCell ⟨pb, 3, none⟩ (.slice p9 (P1.frames.length - 1) c9))).alloc #[.pointer (some ⟨w3.heap.size, 0, none⟩)] 91)
      have X3 : ((w9.setCell ⟨pb, 3, none⟩ (.slice p9 (P1.frames.length - 1) c9)).alloc (.cells #[.pointer (some ⟨w3.heap.size, 0, none⟩)] 91)).heap[pb]? = some (.cells (poolCells b tb P1.size (.slice p9 (P1.frames.length - 1) c9) P1.reads) 90 (0, 0)) := by
        rw [Below.block NA.out _ (Array.getElem?_eq_some_iff.1 HX10.out).1]; exact HX10.out
      have HX3 := hid X3
      clear X3
      go_wp2_with (at_builtin; refine app_frame rfl _ _ rfl 0 _ (P1.frames.length - 1) _ rfl (own_old OWN9.out NA.out) ⟨w9.heap.size, 0, none⟩ w3.heap.size rfl ?cn ?cb ?cc ?_)
      case cn =>
        have h := cells_of (heap_alloc_new (w9.setCell ⟨pb, 3, none⟩ (.slice p9 (P1.frames.length - 1) c9)) (.cells #[.pointer (some ⟨w3.heap.size, 0, none⟩)] 91)) 0
        rw [SZ.out] at h
        exact h
      case cb => have := HL.out; omega
      case cc => exact Nat.zero_le _
      intro v7 w7 own7 grow7 blk7
      obtain ⟨p7, c7, rfl⟩ := own_len own7
      have X7 : w7.heap[pb]? = some (.cells (poolCells b tb P1.size (.slice p9 (P1.frames.length - 1) c9) P1.reads) 90 (0, 0)) := by
        rw [grow7.block pb (Array.getElem?_eq_some_iff.1 HX3.out).1 (fun e => own_ne (own_old OWN9.out NA.out) HX3.out (by decide) e.symm)]; exact HX3.out
      have m7 := cells_of X7
      unfold poolCells at m7
      have f7 := frozen_of X7
      have HX7 := hid X7
      have G7 := hid (grown_turn grow7)
      have B7 := hid blk7
      have OWN7 := hid own7
      clear grow7 blk7 own7 X7 m9 f9
      have q4 : (P1.reads : Int) ≤ 1000000000 := by have := HRD.out; omega
      go_wp2
      go_ret2
      have HRP : (readP P1 w3.heap.size F).frames = P1.frames.drop 1 ++ [(w3.heap.size, F)] := by
        simp only [readP, if_pos HFU.out]
      have ht1 := turn_set w7 pb 3 (.slice p7 (P1.frames.length - 1 + 1) c7)
      have ht2 := turn_set (w7.setCell ⟨pb, 3, none⟩ (.slice p7 (P1.frames.length - 1 + 1) c7)) pb 4 (.int .i64 ((P1.reads : Int) + 1))
      have hts := ht1.trans ht2
      have hX8 := heap_setCell_same _ pb 4 _ 90 (.int .i64 ((P1.reads : Int) + 1)) (heap_setCell_same w7 pb 3 _ 90 (.slice p7 (P1.frames.length - 1 + 1) c7) HX7.out)
      have hT6 : Turn (fun k => k = pb ∨ os = some k) w6 ((w7.setCell ⟨pb, 3, none⟩ (.slice p7 (P1.frames.length - 1 + 1) c7)).setCell ⟨pb, 4, none⟩ (.int .i64 ((P1.reads : Int) + 1))) :=
        (T10.out.trans ((Turn.of_new NA.out).trans (G7.out.mono fun k _ h => .inr (E29.out.symm.trans h)))).trans (hts.mono fun k _ h => .inl h)
      have hown := own_turn OWN7.out hts (fun k hk e => own_ne OWN7.out HX7.out (by decide) (e ▸ hk))
      have hmemf : ∀ q ∈ (readP P1 w3.heap.size F).frames, q ∈ P1.frames ∨ q = (w3.heap.size, F) := fun q hq => by
        rw [HRP] at hq
        rcases List.mem_append.1 hq with h | h
        · exact .inl (List.mem_of_mem_drop h)
        · exact .inr (by simpa using h)
      have hos : ∀ k, (Value.slice p7 (P1.frames.length - 1 + 1) c7).ownBlock = some k → os = some k ∨ w2.heap.size ≤ k := fun k hk => by
        rcases B7.out with h | h
        · exact .inl (E29.out.symm.trans (h.symm.trans hk))
        · rw [hk] at h
          injection h with h
          refine .inr ?_
          rw [h]
          exact Nat.le_trans N6.out.size (Nat.le_trans T10.out.size (by simp))
      have hold : ∀ q ∈ P1.frames, q.1 < w3.heap.size := fun q hq => (S3.out.pool.frames q hq).lt
      refine HFIN.out _ _ (.inr ⟨HRE.out, w3.heap.size, (Value.slice p7 (P1.frames.length - 1 + 1) c7).ownBlock, N3.out.size, rfl, ?_, (Turn.of_new N6.out).trans hT6, hos⟩)
      rw [← HF2.out]
      refine S6.out.laid hT6 (S6.out.pool.laid hT6 _ (readP P1 w3.heap.size F) ?_ ?_ ?_ ?_) ?_
      · rw [hX8]
        rfl
      · rw [HRP, List.length_append, List.length_drop]
        have h2 : ptrVals (P1.frames.drop 1 ++ [(w3.heap.size, F)]) = ptrVals (P1.frames.eraseIdx 0) ++ [.pointer (some ⟨w3.heap.size, 0, none⟩)] := by simp [ptrVals]
        rw [h2, List.eraseIdx_zero]
        exact hown
      · rw [HRP, List.map_append]
        refine List.nodup_append.2 ⟨List.Pairwise.sublist (List.Sublist.map _ (List.drop_sublist 1 _)) S6.out.pool.nodup, by simp, ?_⟩
        intro a ha b' hb'
        obtain ⟨q, hq, rfl⟩ := List.mem_map.1 ha
        simp at hb'
        subst hb'
        have := hold q (List.mem_of_mem_drop hq)
        omega
      · intro q hq
        rcases hmemf q hq with h | rfl
        · exact .inl h
        · refine .inr (FR6.out.turn hT6 ?_ S6.out.pool.not5)
          rintro (e | e)
          · have := (Array.getElem?_eq_some_iff.1 E1.out).1
            obtain ⟨u, k0, -⟩ := FR6.out
            rw [e] at k0
            exact type_ne E1.out k0 (by decide) rfl
          · obtain ⟨u, k0, -⟩ := FR6.out
            exact own_ne OWN.out k0 (by decide) (E2.out.trans e)
      · rintro k (rfl | h | ⟨q, hq, rfl⟩)
        · exact S2.out.pp _ (.inl rfl)
        · rcases hos k h with h | h
          · exact S2.out.pp _ (.inr (.inl h))
          · exact Nat.le_trans S2.out.log.new.size h
        · rcases hmemf q hq with h | rfl
          · exact S2.out.pp _ (.inr (.inr ⟨q, h, rfl⟩))
          · exact Nat.le_trans S2.out.log.new.size N3.out.size

end Go.Proofs.YtdccbceaajnajaaGreat

namespace Go.Proofs.YtdccbceaajnajaaGreat
open Go.RowKit
set_option linter.unusedSimpArgs false
set_option linter.unusedVariables false

def pagesOf (P : APool) : List Int := P.frames.map fun p => (p.2.page : Int)
def pageVals (l : List (Nat × AFrame)) : List Value := l.map fun p => Value.int .i64 (p.2.page : Int)

set_option maxHeartbeats 1600000 in
set_option maxRecDepth 100000 in
theorem frames_any (pb : Nat) (os : Option Nat) (b tb : Nat) (P : APool) (w : World) (h : PoolAt w pb os b tb P) (hs : P.size ≠ 0) (hl : P.frames.length ≤ 100000) : Calls Tryz.prog 18 #[.pointer (some ⟨pb, 0, none⟩)] w (IntsBack (pagesOf P) w) := by
  obtain ⟨p, c, e1, e2, e3⟩ := pool_open h
  have hc := cells_of e1
  unfold poolCells at hc
  have OWN := hid e3
  have HF := hid h.frames
  have HL := hid hl
  clear h e1 e2 e3 hl
  go_enter Tryz.func18, Tryz.ntmps18
  go_wp2_with fail
  refine (pnone_no pb _ _ (hc 2) (by omega)).mono ?_
  rintro e w' ⟨rfl, rfl⟩
  go_wp2
  clear hc
  go_loopw [3, 5, 13] (fun v _ i wr => ∃ j : Nat, j ≤ P.frames.length ∧ i = .int .i64 j ∧ Hid (New w wr) ∧ (∃ q k, v = .slice q j k) ∧ Hid (wr.ownsRow w.heap.size 3 1 v j (pageVals (P.frames.take j)))) (fun _ _ i _ => P.frames.length - (intOf i).toNat)
  case atStart => exact ⟨0, Nat.zero_le _, rfl, hid (New.refl _), ⟨_, _, rfl⟩, hid (World.ownsRow_nil _ _ _ _)⟩
  case round =>
    obtain ⟨j, hj, rfl, hn, ⟨q, k, rfl⟩, hown⟩ := hrel
    by_cases hlt : j < P.frames.length
    · have ho := own_old OWN.out hn.out
      obtain ⟨g, cap, e, _, hg⟩ := ho.form (by omega)
      injection e with e1 e8 e9
      subst e1
      clear e8 e9
      have d0 := ho.cellAt j (by omega)
      have x0 : (ptrVals P.frames)[j]? = some (.pointer (some ⟨(P.frames[j]).1, 0, none⟩)) := by simp [ptrVals, hlt]
      rw [x0] at d0
      have HFR := hid ((HF.out _ (List.getElem_mem hlt)).new hn.out)
      have HTK : Hid (pageVals (P.frames.take (j + 1)) = pageVals (P.frames.take j) ++ [.int .i64 ((P.frames[j]).2.page : Int)]) := hid (by
        unfold pageVals
        rw [← List.take_append_getElem hlt, List.map_append]
        rfl)
      have HLT := hid hlt
      clear x0 ho
      generalize hx : P.frames[j].2 = f at *
      generalize hy : P.frames[j].1 = kb at *
      clear hx hy
      obtain ⟨fp, fc, gc, gf, -⟩ := frame_cells HFR.out
      have N1 : Hid (New wr (wr.alloc (.cells #[.int .i64 (f.page : Int)] 3))) := hid ((New.refl wr).alloc _ _)
      go_wp2_with (at_builtin; refine app_int rfl _ _ rfl w.heap.size _ j _ rfl (own_old hown.out N1.out) ⟨wr.heap.size, 0, none⟩ (f.page : Int) rfl ?cn ?cb ?cc ?_)
      case cn => exact cells_of (heap_alloc_new wr _) 0
      case cb => have := HL.out; omega
      case cc => exact Nat.le_trans hn.out.size N1.out.size
      intro v4 w4 own4 grow4 blk4
      obtain ⟨p4, c4, rfl⟩ := own_len own4
      have N4 : Hid (New w w4) := hid ((hn.out.trans N1.out).grown grow4 (Nat.le_trans hn.out.size N1.out.size) (fun k hk => (hown.out.lt k hk).1))
      have OWN4 := hid own4
      clear own4 grow4 blk4 gc gf d0
      have q9 : P.frames.length ≤ 100000 := HL.out
      go_wp2
      go_roundw
      case rel => exact ⟨j + 1, by omega, by go_num, N4, ⟨_, _, rfl⟩, by rw [HTK.out]; exact OWN4⟩
      case measure => simp [intOf]; omega
    · obtain rfl : j = P.frames.length := by omega
      go_wp2
      go_ret
      refine ⟨_, rfl, ?_, hn.out⟩
      have h1 := RowAt.owned hown.out
      rw [List.take_length] at h1
      have e : pageVals P.frames = (pagesOf P).map fun n : Int => Value.int .i64 n := by simp [pageVals, pagesOf, Function.comp_def]
      unfold Ints
      rw [← e]
      rw [show (pagesOf P).length = P.frames.length by simp [pagesOf]]
      exact h1

end Go.Proofs.YtdccbceaajnajaaGreat

namespace Go.Proofs.YtdccbceaajnajaaGreat
open Go.RowKit
set_option linter.unusedSimpArgs false
set_option linter.unusedVariables false

theorem frontN_take {l : List UInt8} (h : 4 ≤ l.length) : frontN l = valB (l.take 4) ∧ l.take 4 = numB (frontN l) := by
  obtain ⟨m, h1, h2⟩ := rdNum_len h
  refine ⟨by simp [frontN, rdNum, rdTake, h], ?_⟩
  have hl : (numB (rdNum (some l)).1).length = 4 := numB_length _
  have : l.take 4 = (numB (rdNum (some l)).1 ++ m).take 4 := by rw [← h2]
  rw [this, List.take_append_of_le_length (by omega), List.take_of_length_le (by omega)]
  rfl
theorem ends_iff {l : List UInt8} (h : l.length = 136) : l.take 4 = l.drop 132 ↔ frontN l = backN l := by
  have h1 := frontN_take (l := l) (by omega)
  have hd : (l.drop 132).length = 4 := by rw [List.length_drop]; omega
  have h2 := frontN_take (l := l.drop 132) (by omega)
  have e : backN l = frontN (l.drop 132) := rfl
  rw [List.take_of_length_le (by omega : (l.drop 132).length ≤ 4)] at h2
  constructor
  · intro he
    rw [e, h1.1, h2.1, he]
  · intro he
    rw [e] at he
    rw [h1.2, h2.2, ← he]

theorem bytes_place {w : World} {p : Option Addr} {n c : Nat} {s : ByteArray} (h : Bytes w (.slice p n c) s) (h0 : 0 < s.size) : ∃ b o, p = some ⟨b, o, none⟩ := by
  obtain ⟨p', c', e, _, _, h3⟩ := h
  obtain ⟨b, o, e2, _⟩ := h3 h0
  injection e with e1 _ _
  exact ⟨b, o, e1.trans e2⟩
set_option maxHeartbeats 1600000 in
theorem refPageOf_any (v : Value) (l : List UInt8) (w : World) (h : Bytes w v (bytesOf l)) (hl : l.length ≤ 1000000) : Calls Tryz.prog 12 #[v] w (PageBack l w) := by
  have HB := hid h
  obtain ⟨p, c, rfl, h1, h2, -⟩ := h
  rw [bytesOf_size] at h1 HB ⊢
  unfold maxLen at h2
  by_cases a1 : l.length = 136
  case neg =>
    have q1 : ((l.length : Int) == 136) = false := by simp; omega
    have q2 : ((l.length : Int) != 136) = true := by simp; omega
    have HF : Hid (pageE l = false) := hid (by unfold pageE; rw [decide_eq_false a1]; rfl)
    clear a1
    go_enter Tryz.func12, Tryz.ntmps12
    go_wp2
    refine wp_region_new (by kernel_rfl) (by kernel_rfl) ?_
    repeat (go_big_quiet_step (fail))
    refine wpQuiet_nil ?_
    rintro _ ⟨Q, rfl⟩
    go_wp2
    go_ret3
    exact PageBack.no HF.out Q.new
  rw [a1] at h1 HB ⊢
  obtain ⟨qb, qo, rfl⟩ := bytes_place HB.out (by rw [bytesOf_size]; omega)
  have HB2 : Hid (Bytes w (.slice (some ⟨qb, qo, none⟩) l.length c) (bytesOf l)) := hid (by rw [a1]; exact HB.out)
  have hd4 : (l.drop 132).length = 4 := by rw [List.length_drop]; omega
  have ht4 : (l.take 4).length = 4 := by rw [List.length_take]; omega
  have HD : Hid (Bytes w (.slice (some ⟨qb, qo + 132, none⟩) 4 (c - 132)) (bytesOf (l.drop 132))) := hid (by have := HB2.out.dropM 132 (by omega); rw [a1] at this; exact this)
  have HT : Hid (Bytes w (.slice (some ⟨qb, qo, none⟩) 4 c) (bytesOf (l.take 4))) := hid (HB2.out.takeM 4 (by omega))
  have HP : Hid (Bytes w (.slice (some ⟨qb, qo + 4, none⟩) 128 (c - 4)) (bytesOf (pageL l))) := hid (by
    have h4 : (l.take 132).length = 132 := by rw [List.length_take]; omega
    have h5 := HB2.out.takeM 132 (by omega)
    have h6 : Bytes w (.slice (some ⟨qb, qo, none⟩) (l.take 132).length c) (bytesOf (l.take 132)) := by rw [h4]; exact h5
    have := h6.dropM 4 (by omega)
    rw [h4] at this
    exact this)
  have k1 : ∀ Q : After w, (Go.convert 29 9 (.slice (some ⟨qb, qo, none⟩) 4 c)).run Tryz.prog Q.w = .ok (.string (bytesOf (l.take 4))) Q.w := fun Q => by
    have := (HT.out.renew Q.new)
    have e4 : (bytesOf (l.take 4)).size = 4 := by rw [bytesOf_size, ht4]
    rw [← e4] at this ⊢
    exact this.convert 29 5 9 Tryz.underlying29 Tryz.underlying5 Tryz.underlying9
  have k2 : ∀ Q : After w, (Go.convert 29 9 (.slice (some ⟨qb, qo + 132, none⟩) 4 (c - 132))).run Tryz.prog Q.w = .ok (.string (bytesOf (l.drop 132))) Q.w := fun Q => by
    have := (HD.out.renew Q.new)
    have e4 : (bytesOf (l.drop 132)).size = 4 := by rw [bytesOf_size, hd4]
    rw [← e4] at this ⊢
    exact this.convert 29 5 9 Tryz.underlying29 Tryz.underlying5 Tryz.underlying9
  have A1 := hid a1
  have g1 : ¬ c = 132 := by omega
  have g2 : ¬ c = 4 := by omega
  by_cases b1 : frontN l = backN l
  case neg =>
    have hne : ¬ bytesOf (l.take 4) = bytesOf (l.drop 132) := fun e => b1 ((ends_iff a1).1 (bytesOf_inj e))
    have q3 : ((bytesOf (l.take 4)).toList == (bytesOf (l.drop 132)).toList) = false := by rw [str_beq]; simpa using hne
    have q4 : ((bytesOf (l.take 4)).toList != (bytesOf (l.drop 132)).toList) = true := by unfold bne; rw [q3]; rfl
    have HF : Hid (pageE l = false) := hid (by unfold pageE; rw [decide_eq_false b1]; simp)
    clear b1 a1 hd4 ht4
    generalize bytesOf (l.take 4) = sa at *
    generalize bytesOf (l.drop 132) = sb at *
    go_enter Tryz.func12, Tryz.ntmps12
    go_wp2_with fail
    refine wp_region_new (by kernel_rfl) (by kernel_rfl) ?_
    repeat (go_big_quiet_step (fail))
    refine wpQuiet_nil ?_
    rintro _ ⟨Q, rfl⟩
    go_wp2
    go_ret3
    exact PageBack.no HF.out Q.new
  have heq : bytesOf (l.drop 132) = bytesOf (l.take 4) := by rw [(ends_iff a1).2 b1]
  rw [heq] at k2
  have q3 : ((bytesOf (l.take 4)).toList == (bytesOf (l.take 4)).toList) = true := by simp
  have q4 : ((bytesOf (l.take 4)).toList != (bytesOf (l.take 4)).toList) = false := by unfold bne; rw [q3]; rfl
  obtain ⟨F, s1, E1⟩ : ∃ a b, rdNum (some l) = (a, b) := ⟨_, _, rfl⟩
  have eF : frontN l = F := by unfold frontN; rw [E1]
  have E1 := hid E1
  have EF := hid eF
  have B1 := hid b1
  have HL := hid hl
  clear heq eF a1 b1 hl hd4 ht4
  generalize bytesOf (l.take 4) = sa at *
  go_enter Tryz.func12, Tryz.ntmps12
  go_wp2_with fail
  refine wp_region_new (by kernel_rfl) (by kernel_rfl) ?_
  repeat (go_big_quiet_step (fail))
  refine wpQuiet_nil ?_
  rintro _ ⟨Q, rfl⟩
  have NQ := hid Q.new
  generalize Q.w = wq at *
  clear k1 k2 q3 q4
  go_wp2_with fail
  refine (refReader_any _ l _ (by have := HB2.out.renew NQ.out; rw [A1.out] at this; exact this) HL.out).mono ?_
  rintro e w1 ⟨x1, rfl, hr1, n1, hx1⟩
  go_wp2_with fail
  refine (qnumber_at x1 _ _ _ _ E1.out hr1).mono ?_
  rintro e w2 ⟨⟨er1, rfl⟩, hr2, ht2⟩
  have N2 := hid (NQ.out.trans (n1.turned ht2 hx1))
  clear hr1 n1 hr2 ht2 hx1
  by_cases b2 : 1000000 < F
  · have q3 : decide ((1000000 : Int) < F) = true := by simpa using b2
    have HF : Hid (pageE l = false) := hid (by unfold pageE; rw [EF.out, decide_eq_false (by omega : ¬ F ≤ 1000000)]; simp)
    clear b2
    go_wp2
    go_ret3
    exact PageBack.no HF.out N2.out
  have q3 : decide ((1000000 : Int) < F) = false := by simpa using b2
  have HF : Hid (pageE l = true) := hid (by unfold pageE; rw [EF.out, decide_eq_true A1.out, ← B1.out, EF.out, decide_eq_true (by omega : F ≤ 1000000)]; simp)
  clear b2
  have HS : Hid ((bytesOf (pageL l)).size = 128) := hid (by rw [bytesOf_size]; exact pageL_length A1.out)
  have NA := hid ((New.refl w2).alloc #[] 5)
  have HB3 : Hid (Bytes (w2.alloc (.cells #[] 5)) (.slice (some ⟨qb, qo + 4, none⟩) (bytesOf (pageL l)).size (c - 4)) (bytesOf (pageL l))) := hid (by rw [HS.out]; exact HP.out.renew (N2.out.trans NA.out))
  go_wp2_with (at_builtin; refine app_all rfl _ _ rfl w2.heap.size _ 0 [] rfl (World.ownsRow_lit w2 #[] 0 (Nat.le_refl _) (by decide) rfl) (.slice (some ⟨qb, qo + 4, none⟩) (bytesOf (pageL l)).size (c - 4)) (bytesOf (pageL l)) (by rw [HS.out]; rfl) HB3.out ?ca ?cb ?_)
  case ca => have := HS.out; omega
  case cb => simp
  intro v3 w3 own3 grow3 _
  obtain ⟨p3, c3, rfl⟩ := own_len own3
  have N3 := hid (N2.out.trans (NA.out.grown grow3 (by simp) (fun k hk => by simp [Value.ownBlock] at hk; omega)))
  have OWN3 := hid own3
  clear own3 grow3
  go_wp2
  go_ret3
  have hC := own_content (s := bytesOf (pageL l)) OWN3.out rfl (by simp)
  exact ⟨p3, _, c3, F, 0, rfl, N3.out, fun _ => ⟨rfl, EF.out.symm, by rw [HS.out], hC⟩, fun h => by rw [HF.out] at h; exact absurd h (by decide)⟩

end Go.Proofs.YtdccbceaajnajaaGreat

namespace Go.Proofs.YtdccbceaajnajaaGreat
open Go.RowKit
set_option linter.unusedSimpArgs false
set_option linter.unusedVariables false

/-- What a use of a page returns, and what it leaves; k is the block of the frame that is made. -/
structure Used where
  e : Int
  A : ADisk
  T : ATape
  P : APool
def readU (A : ADisk) (T : ATape) (P : APool) (n k : Nat) : Used := if readE A n = 0 then ⟨0, A, T, readP P k (frameOf n (readB A n).data.toList)⟩ else ⟨readE A n, A, T, P⟩
def missU (A : ADisk) (T : ATape) (P : APool) (n k : Nat) : Used :=
  if P.frames.length = P.size then
    match P.frames[0]? with
    | some x => if outE A T x.2 = 0 then readU (outA A T x.2) (outT A T x.2) (setF P x.1 (outF A T x.2)) n k else ⟨outE A T x.2, outA A T x.2, outT A T x.2, setF P x.1 (outF A T x.2)⟩
    | none => ⟨0, A, T, P⟩
  else readU A T P n k
def useU (A : ADisk) (T : ATape) (P : APool) (n k : Nat) : Used :=
  match P.frames.findIdx? (fun p => p.2.page == n) with
  | some i => match P.frames[i]? with
    | some x => ⟨0, A, T, hitP P i x⟩
    | none => ⟨0, A, T, P⟩
  | none => missU A T P n k
/-- What a use gives back. -/
def Handed (U : Used) (e : Ending) : Prop := (U.e ≠ 0 ∧ e = .returned (.tuple #[.pointer none, .int .i64 U.e])) ∨ (U.e = 0 ∧ ∃ l x, U.P.frames = l ++ [x] ∧ e = .returned (.tuple #[.pointer (some ⟨x.1, 0, none⟩), .int .i64 0]))
theorem Handed.no {E : Int} {A : ADisk} {T : ATape} {P : APool} {e : Ending} (h : E ≠ 0) (he : e = .returned (.tuple #[.pointer none, .int .i64 E])) : Handed ⟨E, A, T, P⟩ e := Or.inl ⟨h, he⟩
def UseBack (w0 : World) (b : Nat) (ow : Option Nat) (tb : Nat) (ot : Option Nat) (pb : Nat) (os : Option Nat) (A : ADisk) (T : ATape) (P : APool) (n : Nat) (w : World) (e : Ending) (w' : World) : Prop :=
  ∃ k ow' os', w.heap.size ≤ k ∧ Handed (useU A T P n k) e ∧ Sys w0 w' b ow' tb ot pb os' (useU A T P n k).A (useU A T P n k).T (useU A T P n k).P ∧ Turn (alls b ow tb ot pb os P) w w' ∧ (∀ j, ow' = some j → ow = some j ∨ w.heap.size ≤ j) ∧ (∀ j, os' = some j → os = some j ∨ w.heap.size ≤ j)

set_option maxRecDepth 10000 in
theorem read_used {w0 w w' : World} {b tb pb : Nat} {ow ot os : Option Nat} {A : ADisk} {T : ATape} {P : APool} {n : Nat} {e : Ending} (h : ReadIn w0 b ow tb ot pb os A T P n w e w') :
    ∃ k os', w.heap.size ≤ k ∧ Handed (readU A T P n k) e ∧ Sys w0 w' b ow tb ot pb os' (readU A T P n k).A (readU A T P n k).T (readU A T P n k).P ∧ Turn (fun k => k = pb ∨ os = some k) w w' ∧ (∀ j, os' = some j → os = some j ∨ w.heap.size ≤ j) := by
  rcases h with ⟨h0, he, hS, hn⟩ | ⟨h0, k, os', hk, he, hS, ht, ho⟩
  · refine ⟨w.heap.size, os, Nat.le_refl _, ?_⟩
    have hu : readU A T P n w.heap.size = ⟨readE A n, A, T, P⟩ := by unfold readU; rw [if_neg h0]
    rw [hu]
    exact ⟨Handed.no h0 he, hS, Turn.of_new hn, fun j hj => .inl hj⟩
  · refine ⟨k, os', hk, ?_⟩
    have hu : readU A T P n k = ⟨0, A, T, readP P k (frameOf n (readB A n).data.toList)⟩ := by unfold readU; rw [if_pos h0]
    rw [hu]
    exact ⟨.inr ⟨rfl, _, _, rfl, he⟩, hS, ht, ho⟩
set_option maxRecDepth 10000 in
theorem use_any (w0 : World) (b : Nat) (ow : Option Nat) (tb : Nat) (ot : Option Nat) (pb : Nat) (os : Option Nat) (A : ADisk) (T : ATape) (P : APool) (n m : Nat) (w : World) (S : Sys w0 w b ow tb ot pb os A T P) (hl : P.frames.length ≤ 100000) (hz : P.size ≠ 0) (ok : ∀ p ∈ P.frames, FrameOk p.2) (L : Lim A m) (hm : m ≤ 90000) (hrd : P.reads ≤ 1000000000) :
    Calls Tryz.prog 50 #[.pointer (some ⟨pb, 0, none⟩), .int .i64 (n : Int)] w (UseBack w0 b ow tb ot pb os A T P n w) := by
  cases hf : P.frames.findIdx? (fun p => p.2.page == n) with
  | some i =>
    obtain ⟨hi, hp, hb⟩ := List.findIdx?_eq_some_iff_getElem.1 hf
    have hx : P.frames[i]? = some P.frames[i] := List.getElem?_eq_getElem hi
    have hp' : P.frames[i].2.page = n := by simpa using hp
    refine (use_hit w0 b ow tb ot pb os A T P i P.frames[i] n w S hi hx hp' (fun j hj y hy => ?_) hl).mono ?_
    · have hb' := hb j hj
      have hj2 : j < P.frames.length := by omega
      rw [List.getElem?_eq_getElem hj2] at hy
      injection hy with hy
      subst hy
      simpa using hb'
    rintro e w' ⟨os', he, hS, ht, ho⟩
    have hu : useU A T P n w.heap.size = ⟨0, A, T, hitP P i P.frames[i]⟩ := by unfold useU; rw [hf]; simp only [hx]
    refine ⟨w.heap.size, ow, os', Nat.le_refl _, ?_⟩
    rw [hu]
    exact ⟨.inr ⟨rfl, _, _, rfl, he⟩, hS, ht.mono fun k _ h => by rcases h with h | h; exact .inr (.inl h); exact .inr (.inr (.inl h)), fun j hj => .inl hj, ho⟩
  | none =>
    have hall : ∀ p ∈ P.frames, p.2.page ≠ n := fun p hp => by simpa using List.findIdx?_eq_none_iff.1 hf p hp
    have hu : ∀ k, useU A T P n k = missU A T P n k := fun k => by unfold useU; rw [hf]
    by_cases hfull : P.frames.length = P.size
    · have h0 : 0 < P.frames.length := by omega
      have hx : P.frames[0]? = some P.frames[0] := List.getElem?_eq_getElem h0
      refine (use_full w0 b ow tb ot pb os A T P P.frames[0] n m w S hall hl hfull hx (ok _ (List.getElem_mem h0)) L hm hrd).mono ?_
      generalize P.frames[0] = x at hx ⊢
      rintro e w' ⟨ow1, w1, hS1, ht1, ho1, hc⟩
      have hxm : x ∈ P.frames := List.mem_of_getElem? hx
      have ht2 : Turn (alls b ow tb ot pb os P) w w1 := ht1.mono fun k _ h => by
        rcases h with h | h
        · exact .inl h
        · exact .inr (.inr (.inr ⟨x, hxm, h.symm⟩))
      rcases hc with ⟨h0, he, rfl⟩ | ⟨h0, hr⟩
      · refine ⟨w.heap.size, ow1, os, Nat.le_refl _, ?_⟩
        have hm' : missU A T P n w.heap.size = ⟨outE A T x.2, outA A T x.2, outT A T x.2, setF P x.1 (outF A T x.2)⟩ := by unfold missU; rw [if_pos hfull]; simp only [hx]; rw [if_neg h0]
        rw [hu, hm']
        exact ⟨Handed.no h0 he, hS1, ht2, ho1, fun j hj => .inl hj⟩
      · obtain ⟨k, os', hk, hH, hS2, ht3, ho⟩ := read_used hr
        have hs1 : w.heap.size ≤ w1.heap.size := ht1.size
        refine ⟨k, ow1, os', by omega, ?_⟩
        have hm' : missU A T P n k = readU (outA A T x.2) (outT A T x.2) (setF P x.1 (outF A T x.2)) n k := by unfold missU; rw [if_pos hfull]; simp only [hx]; rw [if_pos h0]
        rw [hu, hm']
        refine ⟨hH, hS2, ht2.trans (ht3.mono fun k _ h => by rcases h with h | h; exact .inr (.inl h); exact .inr (.inr (.inl h))), ho1, fun j hj => ?_⟩
        rcases ho j hj with h | h
        · exact .inl h
        · exact .inr (by omega)
    · refine (use_miss w0 b ow tb ot pb os A T P n m w S hall hl hfull L (by omega) hrd).mono ?_
      intro e w' hr
      obtain ⟨k, os', hk, hH, hS2, ht3, ho⟩ := read_used hr
      refine ⟨k, ow, os', hk, ?_⟩
      have hm' : missU A T P n k = readU A T P n k := by unfold missU; rw [if_neg hfull]
      rw [hu, hm']
      exact ⟨hH, hS2, ht3.mono fun k _ h => by rcases h with h | h; exact .inr (.inl h); exact .inr (.inr (.inl h)), fun j hj => .inl hj, ho⟩

theorem frameOf_ok (n : Nat) (l : List UInt8) (hn : n < 120) : FrameOk (frameOf n l) := by
  unfold frameOf
  by_cases h : pageE l = true
  · rw [if_pos h]
    unfold pageE at h
    simp only [Bool.and_eq_true, decide_eq_true_eq] at h
    have h0 := frontN_nonneg l
    exact ⟨hn, by rw [bytesOf_size]; exact pageL_length h.1.1, by show (frontN l).toNat ≤ 1000000; omega⟩
  · rw [if_neg h]
    exact ⟨hn, by rw [show (⟨n, zero128, 0, false⟩ : AFrame).b = zero128 from rfl]; unfold zero128; rw [bytesOf_size]; simp, Nat.zero_le _⟩
theorem outF_ok {A : ADisk} {T : ATape} {f : AFrame} (h : FrameOk f) : FrameOk (outF A T f) := by
  unfold outF
  split
  · exact ⟨h.page, h.size, h.stamp⟩
  · exact h
theorem setF_ok {P : APool} {k : Nat} {g : AFrame} (h : ∀ p ∈ P.frames, FrameOk p.2) (hg : FrameOk g) : ∀ p ∈ (setF P k g).frames, FrameOk p.2 := by
  intro p hp
  simp only [setF, List.mem_map] at hp
  obtain ⟨q, hq, rfl⟩ := hp
  split
  · exact hg
  · exact h q hq
theorem readP_ok {P : APool} {k : Nat} {g : AFrame} (h : ∀ p ∈ P.frames, FrameOk p.2) (hg : FrameOk g) : ∀ p ∈ (readP P k g).frames, FrameOk p.2 := by
  intro p hp
  simp only [readP, List.mem_append, List.mem_singleton] at hp
  rcases hp with hp | rfl
  · split at hp
    · exact h p (List.mem_of_mem_drop hp)
    · exact h p hp
  · exact hg
theorem hitP_ok {P : APool} {i : Nat} {x : Nat × AFrame} (h : ∀ p ∈ P.frames, FrameOk p.2) (hx : FrameOk x.2) : ∀ p ∈ (hitP P i x).frames, FrameOk p.2 := by
  intro p hp
  simp only [hitP, List.mem_append, List.mem_singleton] at hp
  rcases hp with hp | rfl
  · exact h p (List.mem_of_mem_eraseIdx hp)
  · exact hx
theorem readU_ok {A : ADisk} {T : ATape} {P : APool} {n k : Nat} (h : ∀ p ∈ P.frames, FrameOk p.2) (hn : n < 120) : ∀ p ∈ (readU A T P n k).P.frames, FrameOk p.2 := by
  unfold readU
  split
  · exact readP_ok h (frameOf_ok _ _ hn)
  · exact h
theorem useU_ok {A : ADisk} {T : ATape} {P : APool} {n k : Nat} (h : ∀ p ∈ P.frames, FrameOk p.2) (hn : n < 120) : ∀ p ∈ (useU A T P n k).P.frames, FrameOk p.2 := by
  unfold useU
  split
  · split
    · rename_i x hx
      exact hitP_ok h (h x (List.mem_of_getElem? hx))
    · exact h
  · unfold missU
    split
    · split
      · rename_i x hx
        have hxm : x ∈ P.frames := List.mem_of_getElem? hx
        split
        · exact readU_ok (setF_ok h (outF_ok (h x hxm))) hn
        · exact setF_ok h (outF_ok (h x hxm))
      · exact h
    · exact readU_ok h hn
theorem isP_nat {n : Int} (h : isP n = true) : ∃ t : Nat, n = (t : Int) ∧ t < 120 := by
  unfold isP at h
  simp at h
  exact ⟨n.toNat, by omega, by omega⟩

/-- What the asking for a page leaves. -/
def pageU (A : ADisk) (T : ATape) (P : APool) (n : Int) (k : Nat) : Used := if isP n then (if A.down then ⟨7, A, T, P⟩ else useU A T P n.toNat k) else ⟨2, A, T, P⟩
/-- The page that a pool gives: its bytes, its stamp, or an error. -/
def Got (U : Used) (w : World) (e : Ending) : Prop := (U.e ≠ 0 ∧ e = .returned (.tuple #[.slice none 0 0, .int .i64 0, .int .i64 U.e])) ∨
  (U.e = 0 ∧ ∃ l x p c, U.P.frames = l ++ [x] ∧ e = .returned (.tuple #[.slice p x.2.b.size c, .int .i64 (x.2.stamp : Int), .int .i64 0]) ∧ Content w (.slice p x.2.b.size c) x.2.b)
def GotBack (w0 : World) (b : Nat) (ow : Option Nat) (tb : Nat) (ot : Option Nat) (pb : Nat) (os : Option Nat) (A : ADisk) (T : ATape) (P : APool) (n : Int) (w : World) (e : Ending) (w' : World) : Prop :=
  ∃ k ow' os', w.heap.size ≤ k ∧ Got (pageU A T P n k) w' e ∧ Sys w0 w' b ow' tb ot pb os' (pageU A T P n k).A (pageU A T P n k).T (pageU A T P n k).P ∧ Turn (alls b ow tb ot pb os P) w w' ∧ (∀ j, ow' = some j → ow = some j ∨ w.heap.size ≤ j) ∧ (∀ j, os' = some j → os = some j ∨ w.heap.size ≤ j)

set_option maxHeartbeats 1600000 in
set_option maxRecDepth 100000 in
theorem page_any (w0 : World) (b : Nat) (ow : Option Nat) (tb : Nat) (ot : Option Nat) (pb : Nat) (os : Option Nat) (A : ADisk) (T : ATape) (P : APool) (n : Int) (m : Nat) (w : World) (S : Sys w0 w b ow tb ot pb os A T P) (hl : P.frames.length ≤ 100000) (hz : P.size ≠ 0) (ok : ∀ p ∈ P.frames, FrameOk p.2) (L : Lim A m) (hm : m ≤ 90000) (hrd : P.reads ≤ 1000000000) :
    Calls Tryz.prog 17 #[.pointer (some ⟨pb, 0, none⟩), .int .i64 n] w (GotBack w0 b ow tb ot pb os A T P n w) := by
  cases hp : isP n with
  | false =>
    have hu : pageU A T P n w.heap.size = ⟨2, A, T, P⟩ := by unfold pageU; rw [hp]; rfl
    have HU := hid hu
    have HS := hid S
    clear hu
    obtain ⟨p, c, hc, hf⟩ := pool_cells S.pool
    have hsp := S.pool
    clear S ok L
    go_enter Tryz.func17, Tryz.ntmps17
    go_wp2_with fail
    refine (asked_any pb os b tb P n _ hsp hz).mono ?_
    rintro e w' ⟨rfl, rfl⟩
    rw [hp]
    go_wp2
    go_ret3
    refine ⟨w.heap.size, ow, os, Nat.le_refl _, ?_⟩
    rw [HU.out]
    exact ⟨.inl ⟨show (2 : Int) ≠ 0 by decide, rfl⟩, HS.out, Turn.refl _ _, fun j hj => .inl hj, fun j hj => .inl hj⟩
  | true =>
    cases hd : A.down with
    | true =>
      have hu : pageU A T P n w.heap.size = ⟨7, A, T, P⟩ := by unfold pageU; rw [hp, hd]; rfl
      have HU := hid hu
      have HS := hid S
      clear hu
      obtain ⟨p, c, hc, hf⟩ := pool_cells S.pool
      have hsp := S.pool
      have hdk := S.log.disk
      clear S ok L
      go_enter Tryz.func17, Tryz.ntmps17
      go_wp2_with fail
      refine (asked_any pb os b tb P n _ hsp hz).mono ?_
      rintro e w' ⟨rfl, rfl⟩
      rw [hp]
      go_wp2_with fail
      refine (down_any b ow A _ hdk).mono ?_
      rintro e w' ⟨rfl, rfl⟩
      rw [hd]
      go_wp2
      go_ret3
      refine ⟨w.heap.size, ow, os, Nat.le_refl _, ?_⟩
      rw [HU.out]
      exact ⟨.inl ⟨show (7 : Int) ≠ 0 by decide, rfl⟩, HS.out, Turn.refl _ _, fun j hj => .inl hj, fun j hj => .inl hj⟩
    | false =>
      have hu : ∀ k, pageU A T P n k = useU A T P n.toNat k := fun k => by unfold pageU; rw [hp, hd]; rfl
      have HU := hid hu
      obtain ⟨t, rfl, ht120⟩ := isP_nat hp
      have HS := hid S
      have HOK := hid ok
      have HL := hid L
      have HB : Hid (∀ k, ∀ p ∈ (useU A T P t k).P.frames, FrameOk p.2) := hid fun k => useU_ok ok ht120
      obtain ⟨p, c, hc, hf⟩ := pool_cells S.pool
      have hsp := S.pool
      have hdk := S.log.disk
      clear S ok L hu
      go_enter Tryz.func17, Tryz.ntmps17
      go_wp2_with fail
      refine (asked_any pb os b tb P _ _ hsp hz).mono ?_
      rintro e w' ⟨rfl, rfl⟩
      rw [hp]
      go_wp2_with fail
      refine (down_any b ow A _ hdk).mono ?_
      rintro e w' ⟨rfl, rfl⟩
      rw [hd]
      go_wp2_with fail
      refine (use_any w0 b ow tb ot pb os A T P t m _ HS.out hl hz HOK.out HL.out hm hrd).mono ?_
      rintro e w1 ⟨k, ow1, os1, hk, hh, hS1, hT1, ho1, ho2⟩
      have hB := HB.out k
      have hU := HU.out k
      rw [Int.toNat_natCast] at hU
      clear HU HB hc hf hsp hdk
      generalize useU A T P t k = U at *
      have HS1 := hid hS1
      have HT1 := hid hT1
      have HO1 := hid ho1
      have HO2 := hid ho2
      have HU2 := hid hU
      clear hS1 hT1 ho1 ho2 hU
      rcases hh with ⟨h0, rfl⟩ | ⟨h0, l, x, hx, rfl⟩
      · have q0 : (U.e == 0) = false := by simpa using h0
        have q1 : (U.e != 0) = true := by simpa using h0
        go_wp2
        go_ret3
        refine ⟨k, ow1, os1, hk, ?_⟩
        rw [HU2.out]
        exact ⟨.inl ⟨h0, rfl⟩, HS1.out, HT1.out, HO1.out, HO2.out⟩
      · have hxm : x ∈ U.P.frames := by rw [hx]; simp
        obtain ⟨fp, fc, gc, gf, gt⟩ := frame_cells (HS1.out.pool.frames x hxm)
        have hsz : x.2.b.size ≤ 1000 := by rw [(hB x hxm).size]; decide
        have GT := hid gt
        have HX := hid hx
        clear gt hB hx
        go_wp2_with fail
        have lx : x.1 < w1.heap.size := (HS1.out.pool.frames x hxm).lt
        have LX := hid lx
        have HSZ := hid hsz
        clear lx hsz
        go_region_with (go_at_call 39; refine (cloneBytes_any _ x.2.b _ (GT.out.1.renew (New.refl w1).drew) (by have := HSZ.out; omega)).mono ?_; rintro e w5 ⟨p5, k5, rfl, hc5, hn5⟩; have gc5 := fun o => (hn5.cell x.1 o LX.out).trans (gc o))
        all_goals
          go_wp2
          go_ret3
          refine ⟨k, ow1, os1, hk, ?_⟩
          rw [HU2.out]
          exact ⟨.inr ⟨h0, l, x, p5, k5, HX.out, rfl, hc5⟩, HS1.out.newer ((New.refl w1).drew.trans hn5), HT1.out.trans (Turn.of_new ((New.refl w1).drew.trans hn5)), HO1.out, HO2.out⟩
end Go.Proofs.YtdccbceaajnajaaGreat

namespace Go.Proofs.YtdccbceaajnajaaGreat
open Go.RowKit
set_option linter.unusedSimpArgs false
set_option linter.unusedVariables false

theorem alls_not {w0 w : World} {b tb pb : Nat} {ow ot os : Option Nat} {A : ADisk} {T : ATape} {P : APool} (S : Sys w0 w b ow tb ot pb os A T P) {k : Nat} {c : Array Value} {t : TypeId} {fr : Nat × Nat} (hk : w.heap[k]? = some (.cells c t fr)) (h1 : t ≠ 80) (h2 : t ≠ 111) (h3 : t ≠ 87) (h4 : t ≠ 70) (h5 : t ≠ 90) (h6 : t ≠ 91) (h7 : t ≠ 93) : ¬ alls b ow tb ot pb os P k := by
  rintro (h | h)
  · exact logs_not S.log hk h1 h2 h3 h4 h
  · obtain ⟨c', t', e', ht⟩ := S.pool.typed h
    rw [hk] at e'
    injection e' with e'
    injection e' with _ e2 _
    rcases ht with rfl | rfl | rfl
    · exact h5 e2
    · exact h6 e2
    · exact h7 e2
/-- An empty page. -/
def frame0 (n : Nat) : AFrame := ⟨n, zero128, 0, false⟩
theorem frame0_ok {n : Nat} (hn : n < 120) : FrameOk (frame0 n) := ⟨hn, by unfold frame0 zero128; rw [bytesOf_size]; simp, Nat.zero_le _⟩
def tape0 : ATape := ⟨[], 0, false⟩
theorem frameOf_new (n : Nat) (hn : n < 120) : readE newA n = 0 ∧ frameOf n (readB newA n).data.toList = frame0 n := by
  have h1 : readE newA n = 0 := by
    unfold readE isB
    simp [newA]
    omega
  refine ⟨h1, ?_⟩
  have h2 : (readB newA n).data.toList = [] := by unfold readB; rw [if_pos h1]; rfl
  rw [h2]
  rfl
theorem readU_new (P : APool) (n k : Nat) (hn : n < 120) : readU newA tape0 P n k = ⟨0, newA, tape0, readP P k (frame0 n)⟩ := by
  obtain ⟨h1, h2⟩ := frameOf_new n hn
  unfold readU
  rw [if_pos h1, h2]
theorem awake1 (k : Nat) : pageU newA tape0 ⟨2, [], 0⟩ 1 k = ⟨0, newA, tape0, ⟨2, [(k, frame0 1)], 1⟩⟩ := by
  have : pageU newA tape0 ⟨2, [], 0⟩ 1 k = readU newA tape0 ⟨2, [], 0⟩ 1 k := rfl
  rw [this, readU_new _ _ _ (by decide)]
  rfl
theorem awake2 (a k : Nat) : pageU newA tape0 ⟨2, [(a, frame0 1)], 1⟩ 2 k = ⟨0, newA, tape0, ⟨2, [(a, frame0 1), (k, frame0 2)], 2⟩⟩ := by
  have : pageU newA tape0 ⟨2, [(a, frame0 1)], 1⟩ 2 k = readU newA tape0 ⟨2, [(a, frame0 1)], 1⟩ 2 k := rfl
  rw [this, readU_new _ _ _ (by decide)]
  rfl
theorem awake3 (a c k : Nat) : pageU newA tape0 ⟨2, [(a, frame0 1), (c, frame0 2)], 2⟩ 1 k = ⟨0, newA, tape0, ⟨2, [(c, frame0 2), (a, frame0 1)], 2⟩⟩ := rfl
theorem awake4 (a c k : Nat) (h : a ≠ c) : pageU newA tape0 ⟨2, [(c, frame0 2), (a, frame0 1)], 2⟩ 3 k = ⟨0, newA, tape0, ⟨2, [(a, frame0 1), (k, frame0 3)], 3⟩⟩ := by
  have : pageU newA tape0 ⟨2, [(c, frame0 2), (a, frame0 1)], 2⟩ 3 k = readU newA tape0 (setF ⟨2, [(c, frame0 2), (a, frame0 1)], 2⟩ c (frame0 2)) 3 k := rfl
  have h2 : setF ⟨2, [(c, frame0 2), (a, frame0 1)], 2⟩ c (frame0 2) = ⟨2, [(c, frame0 2), (a, frame0 1)], 2⟩ := by simp [setF, h]
  rw [this, readU_new _ _ _ (by decide), h2]
  rfl

/-- A call of Page that succeeds. -/
theorem page_calm (w0 : World) (b : Nat) (ow : Option Nat) (tb : Nat) (ot : Option Nat) (pb : Nat) (os : Option Nat) (P : APool) (n : Int) (w : World) (S : Sys w0 w b ow tb ot pb os newA tape0 P) (hl : P.frames.length ≤ 2) (hz : P.size = 2) (ok : ∀ p ∈ P.frames, ∃ m, m < 120 ∧ p.2 = frame0 m) (hrd : P.reads ≤ 10) (P' : Nat → APool) (hP : ∀ k, pageU newA tape0 P n k = ⟨0, newA, tape0, P' k⟩) :
    Calls Tryz.prog 17 #[.pointer (some ⟨pb, 0, none⟩), .int .i64 n] w fun e w' => ∃ k ow' os' v st, e = .returned (.tuple #[v, st, .int .i64 0]) ∧ Sys w0 w' b ow' tb ot pb os' newA tape0 (P' k) ∧ ∀ (j : Nat) (c : Array Value) (fr : Nat × Nat), w.heap[j]? = some (Obj.cells c 3 fr) → w'.heap[j]? = some (Obj.cells c 3 fr) := by
  refine (page_any w0 b ow tb ot pb os newA tape0 P n 0 w S (by omega) (by omega) (fun p hp => ?_) lim_new (by omega) (by omega)).mono ?_
  · obtain ⟨m, hm, e⟩ := ok p hp
    rw [e]
    exact frame0_ok hm
  rintro e w' ⟨k, ow', os', hk, hg, hS, ht, -, -⟩
  rw [hP] at hg hS
  rcases hg with ⟨h, _⟩ | ⟨_, l, x, p, c, hx, rfl, hc⟩
  · exact absurd rfl h
  · refine ⟨k, ow', os', _, _, rfl, hS, fun j c fr hj => ?_⟩
    rw [ht.block j (Array.getElem?_eq_some_iff.1 hj).1 (alls_not S hj (by decide) (by decide) (by decide) (by decide) (by decide) (by decide) (by decide))]
    exact hj
theorem row_cells {w : World} {k : Nat} {c : Array Value} {fr : Nat × Nat} (h : w.heap[k]? = some (.cells c 3 fr)) (i : Nat) : w.cell? ⟨k, 0 + i, none⟩ = c[i]? := by
  rw [Nat.zero_add]
  exact cells_of h i

set_option maxHeartbeats 1600000 in
set_option maxRecDepth 100000 in
theorem pawake_any (w : World) : Calls Tryz.prog 7 #[] w fun e w' => e = .returned (.bool true) ∧ New w w' := by
  go_enter Tryz.func7, Tryz.ntmps7
  go_wp2_with fail
  refine (new_any _).mono ?_
  rintro e w2 ⟨rfl, rfl⟩
  have M1 := hid (Mine.made w w (New.refl w))
  go_wp2_with fail
  refine (open_any w w.heap.size none newA 0 _ M1.out calm_new (by omega)).mono ?_
  rintro e w3 ⟨ow3, tb, ot3, rfl, hL3, ht3, -, htb3, hot3⟩
  rw [HasLog.new.opened.1, HasLog.new.opened.2] at hL3
  have L3 := hid hL3
  clear hL3 ht3 htb3 hot3 M1
  generalize w.heap.size = b at L3 ⊢
  go_wp2_with fail
  refine (pnew_any b ow3 newA tb 2 _ L3.out.disk (by decide)).mono ?_
  rintro e w4 ⟨hn4, hy, -⟩
  obtain ⟨pb, hpb, rfl, hP4⟩ := hy ⟨by decide, by decide⟩
  have S4 : Hid (Sys w w4 b ow3 tb ot3 pb none newA tape0 ⟨2, [], 0⟩) := hid ⟨L3.out.newer hn4, hP4, fun k hk => by
    have hw : w.heap.size ≤ w3.heap.size := L3.out.new.size
    rcases hk with rfl | hk | ⟨p, hp, _⟩
    · omega
    · cases hk
    · cases hp⟩
  have NX := hid S4.out.log.new
  clear hn4 hy hP4 L3
  have bx := heap_alloc_new w4 (.cells #[.int .i64 1, .int .i64 2, .int .i64 1, .int .i64 3] 3)
  have S5 := hid (S4.out.newer ((New.refl w4).alloc #[.int .i64 1, .int .i64 2, .int .i64 1, .int .i64 3] 3))
  clear S4
  go_wp2_with fail
  generalize w4.alloc (.cells #[.int .i64 1, .int .i64 2, .int .i64 1, .int .i64 3] 3) = w5 at *
  generalize w4.heap.size = rb at *
  have BX := hid bx
  have g0 := cells_of bx
  clear bx
  refine wp_loop_rounds 5 ?_
  rw [rounds_succ]
  go_wp2_with fail
  refine (page_calm w b ow3 tb ot3 pb none ⟨2, [], 0⟩ 1 _ S5.out (by decide) rfl (fun p hp => by cases hp) (by decide) _ awake1).mono ?_
  rintro e w6 ⟨k1, ow6, os6, v6, st6, rfl, hS6, hr6⟩
  have S6 := hid hS6
  have bx := hr6 _ _ _ BX.out
  clear hS6 hr6 g0 BX S5
  have BX := hid bx
  have g0 := cells_of bx
  clear bx
  go_wp2
  rw [rounds_succ]
  go_wp2_with fail
  refine (page_calm w b ow6 tb _ pb os6 ⟨2, [(k1, frame0 1)], 1⟩ 2 _ S6.out (by simp) rfl (fun p hp => by simp at hp; exact ⟨1, by decide, by rw [hp]⟩) (by simp) _ (awake2 k1)).mono ?_
  rintro e w7 ⟨k2, ow7, os7, v7, st7, rfl, hS7, hr7⟩
  have S7 := hid hS7
  have bx := hr7 _ _ _ BX.out
  clear hS7 hr7 g0 BX S6
  have BX := hid bx
  have g0 := cells_of bx
  clear bx
  have hne : Hid (k1 ≠ k2) := hid (by
    have := S7.out.pool.nodup
    simp at this
    exact this)
  go_wp2
  rw [rounds_succ]
  go_wp2_with fail
  refine (page_calm w b ow7 tb _ pb os7 ⟨2, [(k1, frame0 1), (k2, frame0 2)], 2⟩ 1 _ S7.out (by simp) rfl (fun p hp => by
    simp at hp
    rcases hp with hp | hp
    · exact ⟨1, by decide, by rw [hp]⟩
    · exact ⟨2, by decide, by rw [hp]⟩) (by simp) _ (awake3 k1 k2)).mono ?_
  rintro e w8 ⟨_, ow8, os8, v8, st8, rfl, hS8, hr8⟩
  have S8 := hid hS8
  have bx := hr8 _ _ _ BX.out
  clear hS8 hr8 g0 BX S7
  have BX := hid bx
  have g0 := cells_of bx
  clear bx
  go_wp2
  rw [rounds_succ]
  go_wp2_with fail
  refine (page_calm w b ow8 tb _ pb os8 ⟨2, [(k2, frame0 2), (k1, frame0 1)], 2⟩ 3 _ S8.out (by simp) rfl (fun p hp => by
    simp at hp
    rcases hp with hp | hp
    · exact ⟨2, by decide, by rw [hp]⟩
    · exact ⟨1, by decide, by rw [hp]⟩) (by simp) _ (fun k => awake4 k1 k2 k hne.out)).mono ?_
  rintro e w9 ⟨k3, ow9, os9, v9, st9, rfl, hS9, hr9⟩
  have S9 := hid hS9
  have bx := hr9 _ _ _ BX.out
  clear hS9 hr9 g0 BX S8
  have g0 := cells_of bx
  clear bx
  go_wp2
  rw [rounds_succ]
  clear g0
  go_wp2_with fail
  refine (frames_any pb os9 b tb _ _ S9.out.pool (by simp) (by simp)).mono ?_
  rintro e w10 ⟨v10, rfl, hi10, n10⟩
  have S10 := hid (S9.out.newer n10)
  have I10 := hid hi10
  clear hi10 n10 S9
  have nb := (New.refl w10).alloc #[.int .i64 1, .int .i64 3] 3
  have S11 := hid (S10.out.newer nb)
  have I11 := hid (I10.out.new nb)
  have R11 := hid (RowAt.made w10 [.int .i64 1, .int .i64 3] 3 2 (by decide))
  clear nb S10 I10
  go_wp2_with fail
  refine (sameInts_any _ _ [1, 3] [1, 3] _ I11.out R11.out).mono ?_
  rintro e w12 ⟨rfl, n12⟩
  have S12 := hid (S11.out.newer n12)
  have z0 : decide (([1, 3] : List Int) = [1, 3]) = true := by decide
  clear n12 S11 I11 R11
  go_wp2_with fail
  refine (reads_any pb os9 b tb _ _ S12.out.pool (by simp)).mono ?_
  rintro e w13 ⟨rfl, rfl⟩
  go_wp2
  go_ret
  exact ⟨rfl, S12.out.log.new⟩
end Go.Proofs.YtdccbceaajnajaaGreat

namespace Go.Proofs.YtdccbceaajnajaaGreat
open Go.RowKit
set_option linter.unusedSimpArgs false
set_option linter.unusedVariables false

def blkOut (l : List UInt8) (st : Int) : List UInt8 := if pgOk l st then blkB l st else []
def pageOut (l : List UInt8) : List UInt8 := if pageE l then pageL l else []
theorem BlockBack.str {l : List UInt8} {st : Int} {w w' : World} {e : Ending} (h : BlockBack l st w e w') : ∃ p k c, ∃ er : Int, e = .returned (.tuple #[.slice p k c, .int .i64 er]) ∧ New w w' ∧ Bytes w' (.slice p k c) (bytesOf (blkOut l st)) ∧ er = if pgOk l st then 0 else 2 := by
  obtain ⟨p, k, c, er, rfl, hn, h1, h2⟩ := h
  refine ⟨p, k, c, er, rfl, hn, ?_, ?_⟩
  · unfold blkOut
    cases hp : pgOk l st with
    | true => exact (h1 hp).2.2.1
    | false => rw [(h2 hp).2]; exact (Content.nil w').1
  · cases hp : pgOk l st with
    | true => rw [(h1 hp).1]; rfl
    | false => rw [(h2 hp).1]; rfl
theorem PageBack.str {l : List UInt8} {w w' : World} {e : Ending} (h : PageBack l w e w') : ∃ p k c, ∃ st er : Int, e = .returned (.tuple #[.slice p k c, .int .i64 st, .int .i64 er]) ∧ New w w' ∧ Bytes w' (.slice p k c) (bytesOf (pageOut l)) ∧ st = (if pageE l then frontN l else 0) ∧ er = if pageE l then 0 else 3 := by
  obtain ⟨p, k, c, st, er, rfl, hn, h1, h2⟩ := h
  refine ⟨p, k, c, st, er, rfl, hn, ?_, ?_, ?_⟩
  · unfold pageOut
    cases hp : pageE l with
    | true => exact (h1 hp).2.2.2.1
    | false => rw [(h2 hp).2.2]; exact (Content.nil w').1
  · cases hp : pageE l with
    | true => rw [(h1 hp).2.1]; rfl
    | false => rw [(h2 hp).2.1]; rfl
  · cases hp : pageE l with
    | true => rw [(h1 hp).1]; rfl
    | false => rw [(h2 hp).1]; rfl
/-- A block's page is it. -/
theorem blk_page {l : List UInt8} {st : Int} (h : pgOk l st = true) : pageE (blkB l st) = true ∧ frontN (blkB l st) = st ∧ pageL (blkB l st) = l := by
  unfold pgOk at h
  simp only [Bool.and_eq_true, decide_eq_true_eq] at h
  obtain ⟨hl, hw⟩ := h
  have hs := wi_iff.1 hw
  have e1 : frontN (blkB l st) = st := by
    unfold frontN blkB
    rw [List.append_assoc, rdNum_app _ _ (by omega) (by omega)]
  have e2 : backN (blkB l st) = st := by
    unfold backN blkB
    have hd : (numB st ++ l ++ numB st).drop 132 = numB st ++ [] := by
      rw [List.drop_append_of_le_length (by simp [numB_length, hl]), List.drop_of_length_le (by simp [numB_length, hl])]
      simp
    rw [hd, rdNum_app _ _ (by omega) (by omega)]
  refine ⟨?_, e1, ?_⟩
  · unfold pageE
    rw [e1, e2, decide_eq_true (blkB_length hl), decide_eq_true rfl, decide_eq_true (by omega : st ≤ 1000000)]
    rfl
  · unfold pageL blkB
    have e4 : (numB st).length = 4 := numB_length st
    rw [List.take_append_of_le_length (by simp [e4, hl]), List.take_of_length_le (by simp [e4, hl]), List.drop_append_of_le_length (by omega), List.drop_of_length_le (by omega)]
    rfl

end Go.Proofs.YtdccbceaajnajaaGreat
