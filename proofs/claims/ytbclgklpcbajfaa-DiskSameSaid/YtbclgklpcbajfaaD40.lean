/- does: an act on a disk and on the specification's (printed by does.py). -/
import Derived.Test.YtbclgklpcbajfaaD39
namespace Go.Proofs.Ytbclgklpcbajfaa
open Go.RowKit
set_option linter.unusedSimpArgs false
set_option linter.unusedVariables false

def DoesBack (w0 w : World) (b : Nat) (ow : Option Nat) (c : Nat) (oc : Option Nat) (n : Nat) (e : Ending) (w' : World) : Prop :=
  ∃ b' ow' A' c' oc' R', e = .returned (.tuple #[.pointer (some ⟨b', 0, none⟩), .pointer (some ⟨c', 0, none⟩), .bool true]) ∧ Pair w0 w' b' ow' A' c' oc' R' ∧ Like A' R' ∧ Lim A' (n + 1) ∧ Step w w' (both b ow c oc) (both b' ow' c' oc')
abbrev deedCells (x : Deed) (sp kp : Option Addr) (sc kc : Nat) : Array Value := #[.int .i64 x.kind, .int .i64 x.block, .int .i64 x.n, .slice sp x.bytes.size sc, .slice kp x.keep.length kc]
/-- A block that was just laid, behind a step. -/
theorem Step.local {w W : World} {cs : Array Value} {t : TypeId} {X Y : Nat → Prop} (h : Step (w.alloc (.cells cs t)) W X Y) (hX : ∀ k, X k → k < w.heap.size) : (∀ o, W.cell? ⟨w.heap.size, o, none⟩ = cs[o]?) ∧ w.heap.size < W.heap.size := by
  have hl : w.heap.size < (w.alloc (.cells cs t)).heap.size := by rw [World.size_alloc]; omega
  refine ⟨fun o => ?_, Nat.lt_of_lt_of_le hl h.turn.size⟩
  rw [World.cell?_of_block (h.turn.block w.heap.size hl (fun hx => by have := hX _ hx; omega))]
  exact cell_made w cs t o
theorem kinds (k : Int) : k.tmod 9 = 0 ∨ k.tmod 9 = 1 ∨ k.tmod 9 = 2 ∨ k.tmod 9 = 3 ∨ k.tmod 9 = 4 ∨ k.tmod 9 = 5 ∨ k.tmod 9 = 6 ∨ (k.tmod 9 ≠ 0 ∧ k.tmod 9 ≠ 1 ∧ k.tmod 9 ≠ 2 ∧ k.tmod 9 ≠ 3 ∧ k.tmod 9 ≠ 4 ∧ k.tmod 9 ≠ 5 ∧ k.tmod 9 ≠ 6) := by omega
theorem Bools.turned {S : Nat → Prop} {w w' : World} {v : Value} {s : List Bool} (h : Bools w v s) (ht : Turn S w w') (hS : 0 < s.length → ∀ k, v.ownBlock = some k → ¬ S k) : Bools w' v s := by
  obtain ⟨p, c, rfl, h1, h2, h3⟩ := h
  refine ⟨p, c, rfl, h1, h2, fun h0 => ?_⟩
  obtain ⟨b, o, rfl, hb, hc⟩ := h3 h0
  refine ⟨b, o, rfl, Nat.lt_of_lt_of_le hb ht.size, fun i hi => ?_⟩
  rw [World.cell?_of_block (w := w) (a := ⟨b, o + i, none⟩) (ht.block b hb (hS h0 b rfl))]
  exact hc i hi

set_option maxHeartbeats 4000000 in
set_option maxRecDepth 100000 in
theorem does_write (w0 w : World) (b c : Nat) (ow oc : Option Nat) (A R : ADisk) (n : Nat) (x : Deed) (sp kp : Option Addr) (sc kc : Nat) (P : Pair w0 w b ow A c oc R) (L : Like A R) (M : Lim A n) (hn : n ≤ 1000)
    (hs : Bytes w (.slice sp x.bytes.size sc) x.bytes) (hk : Bools w (.slice kp x.keep.length kc) x.keep) (hso : 0 < x.bytes.size → ∀ k, (Value.slice sp x.bytes.size sc).ownBlock = some k → k < w0.heap.size) (hko : 0 < x.keep.length → ∀ k, (Value.slice kp x.keep.length kc).ownBlock = some k → k < w0.heap.size)
    (sb : x.bytes.size ≤ sc ∧ sc ≤ 2 ^ 63 - 1) (kb : x.keep.length ≤ kc ∧ kc ≤ 2 ^ 63 - 1) (hN : x.n ≤ 2 ^ 63 - 1)
    (hK : (IntKind.u64.wrap x.kind).tmod 9 = 0) :
    Calls Try.prog 34 #[.pointer (some ⟨b, 0, none⟩), .pointer (some ⟨c, 0, none⟩), .agg (deedCells x sp kp sc kc)] w (DoesBack w0 w b ow c oc n) := by
  have hlt : ∀ k, both b ow c oc k → k < w.heap.size := fun k hk => by
    rcases hk with h | h
    · exact P.disk.its_lt h
    · exact P.ref.its_lt h
  have hn1 : New w (w.alloc (.cells (deedCells x sp kp sc kc) 37)) := (New.refl w).alloc _ _
  have P1 := hid (P.newer hn1)
  have S1 : Hid (Step (w.alloc (.cells (deedCells x sp kp sc kc) 37)) (w.alloc (.cells (deedCells x sp kp sc kc) 37)) (both b ow c oc) (both b ow c oc)) := hid (Step.refl _ _)
  have HLT := hid hlt
  have HN1 := hid hn1
  have HS := hid hs
  have HKB := hid hk
  have HSO := hid hso
  have HKO := hid hko
  have HL := hid L
  have HM := hid M
  have HP := hid P
  have F1 : Hid (A.falls ≤ 1000000000 ∧ A.acts ≤ 1000000000 ∧ A.waits.length ≤ 100000000) := hid ⟨by have := M.falls; omega, by have := M.acts; omega, by have := M.waits; omega⟩
  have F2 : Hid (R.falls ≤ 1000000000 ∧ R.acts ≤ 1000000000 ∧ R.waits.length ≤ 100000000) := hid ⟨by rw [L.falls]; have := M.falls; omega, by rw [L.acts]; have := M.acts; omega, by rw [L.waits]; have := M.waits; omega⟩
  have F3 : Hid (A.waits.length ≤ 1000000000 ∧ R.waits.length ≤ 1000000000) := hid ⟨by have := F1.out.2.2; omega, by have := F2.out.2.2; omega⟩
  have HSB : Hid (0 < x.bytes.size → ∀ k, (Value.slice sp x.bytes.size sc).ownBlock = some k → ¬ k = b) := fun h0 k hk e => by have := hso h0 k hk; have := P.old b (.inl (.inl rfl)); omega
  have HSC : Hid (0 < x.bytes.size → ∀ k, (Value.slice sp x.bytes.size sc).ownBlock = some k → ¬ k = c) := fun h0 k hk e => by have := hso h0 k hk; have := P.old c (.inr (.inl rfl)); omega
  have HKBB : Hid (0 < x.keep.length → ∀ k, (Value.slice kp x.keep.length kc).ownBlock = some k → k ≠ b) := fun h0 k hk e => by have := hko h0 k hk; have := P.old b (.inl (.inl rfl)); omega
  have HKC : Hid (0 < x.keep.length → ∀ k, (Value.slice kp x.keep.length kc).ownBlock = some k → k ≠ c) := fun h0 k hk e => by have := hko h0 k hk; have := P.old c (.inr (.inl rfl)); omega
  obtain ⟨s1, s2⟩ := sb
  obtain ⟨k1, k2⟩ := kb
  have BT : Hid (∀ (W : World) (Y : Nat → Prop), Step (w.alloc (.cells (deedCells x sp kp sc kc) 37)) W (both b ow c oc) Y → Bytes W (.slice sp x.bytes.size sc) x.bytes) := fun W Y h => Bytes.turn (Bytes.new hs hn1) h.turn (fun h0 k hk hx => by have := hso h0 k hk; have := P.old k hx; omega)
  have KT : Hid (∀ (W : World) (Y : Nat → Prop), Step (w.alloc (.cells (deedCells x sp kp sc kc) 37)) W (both b ow c oc) Y → Bools W (.slice kp x.keep.length kc) x.keep) := fun W Y h => Bools.turned (RowAt.new hk hn1) h.turn (fun h0 k hk hx => by have := hko h0 k hk; have := P.old k hx; omega)
  have t0 : ((IntKind.u64.wrap x.kind).tmod 9 == 0) = true := by rw [hK]; rfl
  have t1 : ((IntKind.u64.wrap x.kind).tmod 9 == 1) = false := by rw [hK]; rfl
  have t2 : ((IntKind.u64.wrap x.kind).tmod 9 == 2) = false := by rw [hK]; rfl
  have t3 : ((IntKind.u64.wrap x.kind).tmod 9 == 3) = false := by rw [hK]; rfl
  have t4 : ((IntKind.u64.wrap x.kind).tmod 9 == 4) = false := by rw [hK]; rfl
  have t5 : ((IntKind.u64.wrap x.kind).tmod 9 == 5) = false := by rw [hK]; rfl
  have t6 : ((IntKind.u64.wrap x.kind).tmod 9 == 6) = false := by rw [hK]; rfl
  clear hK
  clear hlt hn1 hs hk hso hko L M P hn
  go_enter Try.func34, Try.ntmps34
  have P1d := hid (P1.out.newer ((New.refl (w.alloc (.cells (deedCells x sp kp sc kc) 37))).drew))
  have S1d := hid (S1.out.trans (Step.of_new ((New.refl (w.alloc (.cells (deedCells x sp kp sc kc) 37))).drew)))
  go_wp2_with fail
  go_region_law (first
    | (go_simp; go_at_call 22; refine (write_any b ow A x.block _ x.bytes _ P1d.out.disk (BT.out _ _ S1d.out) HSB.out F1.out.1 F1.out.2.1 F3.out.1).mono ?_; intro e w2 h2; obtain ⟨ow2, rfl, p2, s2'⟩ := P1d.out.disk_moved h2; have P2 := hid p2; have S2 := hid (S1d.out.trans s2'); obtain ⟨ml2, l2⟩ := S2.out.local HLT.out; clear h2 p2 s2')
    | (go_simp; go_at_call 70; refine (refWrite_any c oc R x.block _ x.bytes _ P2.out.ref (BT.out _ _ S2.out) HSC.out F2.out.1 F2.out.2.1 F3.out.2).mono ?_; intro e w3 h3; obtain ⟨oc3, rfl, p3, s3'⟩ := P2.out.ref_moved h3; have P3 := hid p3; have S3 := hid (S2.out.trans s3'); obtain ⟨ml3, l3⟩ := S3.out.local HLT.out; clear h3 p3 s3'))
  all_goals
    try rw [(HL.out.write x.block x.bytes).1]

    go_wp2
    go_ret3
    exact ⟨_, _, _, _, _, _, rfl, P3.out, (HL.out.write x.block x.bytes).2, (HM.out.write x.block x.bytes), (Step.of_new HN1.out).trans S3.out⟩

set_option maxHeartbeats 4000000 in
set_option maxRecDepth 100000 in
theorem does_lose (w0 w : World) (b c : Nat) (ow oc : Option Nat) (A R : ADisk) (n : Nat) (x : Deed) (sp kp : Option Addr) (sc kc : Nat) (P : Pair w0 w b ow A c oc R) (L : Like A R) (M : Lim A n) (hn : n ≤ 1000)
    (hs : Bytes w (.slice sp x.bytes.size sc) x.bytes) (hk : Bools w (.slice kp x.keep.length kc) x.keep) (hso : 0 < x.bytes.size → ∀ k, (Value.slice sp x.bytes.size sc).ownBlock = some k → k < w0.heap.size) (hko : 0 < x.keep.length → ∀ k, (Value.slice kp x.keep.length kc).ownBlock = some k → k < w0.heap.size)
    (sb : x.bytes.size ≤ sc ∧ sc ≤ 2 ^ 63 - 1) (kb : x.keep.length ≤ kc ∧ kc ≤ 2 ^ 63 - 1) (hN : x.n ≤ 2 ^ 63 - 1)
    (hK : (IntKind.u64.wrap x.kind).tmod 9 = 5) :
    Calls Try.prog 34 #[.pointer (some ⟨b, 0, none⟩), .pointer (some ⟨c, 0, none⟩), .agg (deedCells x sp kp sc kc)] w (DoesBack w0 w b ow c oc n) := by
  have hlt : ∀ k, both b ow c oc k → k < w.heap.size := fun k hk => by
    rcases hk with h | h
    · exact P.disk.its_lt h
    · exact P.ref.its_lt h
  have hn1 : New w (w.alloc (.cells (deedCells x sp kp sc kc) 37)) := (New.refl w).alloc _ _
  have P1 := hid (P.newer hn1)
  have S1 : Hid (Step (w.alloc (.cells (deedCells x sp kp sc kc) 37)) (w.alloc (.cells (deedCells x sp kp sc kc) 37)) (both b ow c oc) (both b ow c oc)) := hid (Step.refl _ _)
  have HLT := hid hlt
  have HN1 := hid hn1
  have HS := hid hs
  have HKB := hid hk
  have HSO := hid hso
  have HKO := hid hko
  have HL := hid L
  have HM := hid M
  have HP := hid P
  have F1 : Hid (A.falls ≤ 1000000000 ∧ A.acts ≤ 1000000000 ∧ A.waits.length ≤ 100000000) := hid ⟨by have := M.falls; omega, by have := M.acts; omega, by have := M.waits; omega⟩
  have F2 : Hid (R.falls ≤ 1000000000 ∧ R.acts ≤ 1000000000 ∧ R.waits.length ≤ 100000000) := hid ⟨by rw [L.falls]; have := M.falls; omega, by rw [L.acts]; have := M.acts; omega, by rw [L.waits]; have := M.waits; omega⟩
  have F3 : Hid (A.waits.length ≤ 1000000000 ∧ R.waits.length ≤ 1000000000) := hid ⟨by have := F1.out.2.2; omega, by have := F2.out.2.2; omega⟩
  have HSB : Hid (0 < x.bytes.size → ∀ k, (Value.slice sp x.bytes.size sc).ownBlock = some k → ¬ k = b) := fun h0 k hk e => by have := hso h0 k hk; have := P.old b (.inl (.inl rfl)); omega
  have HSC : Hid (0 < x.bytes.size → ∀ k, (Value.slice sp x.bytes.size sc).ownBlock = some k → ¬ k = c) := fun h0 k hk e => by have := hso h0 k hk; have := P.old c (.inr (.inl rfl)); omega
  have HKBB : Hid (0 < x.keep.length → ∀ k, (Value.slice kp x.keep.length kc).ownBlock = some k → k ≠ b) := fun h0 k hk e => by have := hko h0 k hk; have := P.old b (.inl (.inl rfl)); omega
  have HKC : Hid (0 < x.keep.length → ∀ k, (Value.slice kp x.keep.length kc).ownBlock = some k → k ≠ c) := fun h0 k hk e => by have := hko h0 k hk; have := P.old c (.inr (.inl rfl)); omega
  obtain ⟨s1, s2⟩ := sb
  obtain ⟨k1, k2⟩ := kb
  have BT : Hid (∀ (W : World) (Y : Nat → Prop), Step (w.alloc (.cells (deedCells x sp kp sc kc) 37)) W (both b ow c oc) Y → Bytes W (.slice sp x.bytes.size sc) x.bytes) := fun W Y h => Bytes.turn (Bytes.new hs hn1) h.turn (fun h0 k hk hx => by have := hso h0 k hk; have := P.old k hx; omega)
  have KT : Hid (∀ (W : World) (Y : Nat → Prop), Step (w.alloc (.cells (deedCells x sp kp sc kc) 37)) W (both b ow c oc) Y → Bools W (.slice kp x.keep.length kc) x.keep) := fun W Y h => Bools.turned (RowAt.new hk hn1) h.turn (fun h0 k hk hx => by have := hko h0 k hk; have := P.old k hx; omega)
  have t0 : ((IntKind.u64.wrap x.kind).tmod 9 == 0) = false := by rw [hK]; rfl
  have t1 : ((IntKind.u64.wrap x.kind).tmod 9 == 1) = false := by rw [hK]; rfl
  have t2 : ((IntKind.u64.wrap x.kind).tmod 9 == 2) = false := by rw [hK]; rfl
  have t3 : ((IntKind.u64.wrap x.kind).tmod 9 == 3) = false := by rw [hK]; rfl
  have t4 : ((IntKind.u64.wrap x.kind).tmod 9 == 4) = false := by rw [hK]; rfl
  have t5 : ((IntKind.u64.wrap x.kind).tmod 9 == 5) = true := by rw [hK]; rfl
  have t6 : ((IntKind.u64.wrap x.kind).tmod 9 == 6) = false := by rw [hK]; rfl
  clear hK
  clear hlt hn1 hs hk hso hko L M P hn
  go_enter Try.func34, Try.ntmps34
  have P1d := hid (P1.out.newer ((New.refl (w.alloc (.cells (deedCells x sp kp sc kc) 37))).drew))
  have S1d := hid (S1.out.trans (Step.of_new ((New.refl (w.alloc (.cells (deedCells x sp kp sc kc) 37))).drew)))
  go_wp2_with fail
  go_region_law (first
    | (go_simp; go_at_call 40; refine (lose_any b ow A x.block _ P1d.out.disk F1.out.2.2).mono ?_; intro e w2 h2; obtain ⟨ow2, rfl, p2, s2'⟩ := P1d.out.disk_moved h2; have P2 := hid p2; have S2 := hid (S1d.out.trans s2'); obtain ⟨ml2, l2⟩ := S2.out.local HLT.out; clear h2 p2 s2')
    | (go_simp; go_at_call 75; refine (refLose_any c oc R x.block _ P2.out.ref F2.out.2.2).mono ?_; intro e w3 h3; obtain ⟨oc3, rfl, p3, s3'⟩ := P2.out.ref_moved h3; have P3 := hid p3; have S3 := hid (S2.out.trans s3'); obtain ⟨ml3, l3⟩ := S3.out.local HLT.out; clear h3 p3 s3'))
  all_goals
  
    go_wp2
    go_ret3
    exact ⟨_, _, _, _, _, _, rfl, P3.out, (HL.out.lose x.block), ((HM.out.lose x.block).mono (by omega)), (Step.of_new HN1.out).trans S3.out⟩

set_option maxHeartbeats 4000000 in
set_option maxRecDepth 100000 in
theorem does_flush (w0 w : World) (b c : Nat) (ow oc : Option Nat) (A R : ADisk) (n : Nat) (x : Deed) (sp kp : Option Addr) (sc kc : Nat) (P : Pair w0 w b ow A c oc R) (L : Like A R) (M : Lim A n) (hn : n ≤ 1000)
    (hs : Bytes w (.slice sp x.bytes.size sc) x.bytes) (hk : Bools w (.slice kp x.keep.length kc) x.keep) (hso : 0 < x.bytes.size → ∀ k, (Value.slice sp x.bytes.size sc).ownBlock = some k → k < w0.heap.size) (hko : 0 < x.keep.length → ∀ k, (Value.slice kp x.keep.length kc).ownBlock = some k → k < w0.heap.size)
    (sb : x.bytes.size ≤ sc ∧ sc ≤ 2 ^ 63 - 1) (kb : x.keep.length ≤ kc ∧ kc ≤ 2 ^ 63 - 1) (hN : x.n ≤ 2 ^ 63 - 1)
    (hK : (IntKind.u64.wrap x.kind).tmod 9 = 1) :
    Calls Try.prog 34 #[.pointer (some ⟨b, 0, none⟩), .pointer (some ⟨c, 0, none⟩), .agg (deedCells x sp kp sc kc)] w (DoesBack w0 w b ow c oc n) := by
  have hlt : ∀ k, both b ow c oc k → k < w.heap.size := fun k hk => by
    rcases hk with h | h
    · exact P.disk.its_lt h
    · exact P.ref.its_lt h
  have hn1 : New w (w.alloc (.cells (deedCells x sp kp sc kc) 37)) := (New.refl w).alloc _ _
  have P1 := hid (P.newer hn1)
  have S1 : Hid (Step (w.alloc (.cells (deedCells x sp kp sc kc) 37)) (w.alloc (.cells (deedCells x sp kp sc kc) 37)) (both b ow c oc) (both b ow c oc)) := hid (Step.refl _ _)
  have HLT := hid hlt
  have HN1 := hid hn1
  have HS := hid hs
  have HKB := hid hk
  have HSO := hid hso
  have HKO := hid hko
  have HL := hid L
  have HM := hid M
  have HP := hid P
  have F1 : Hid (A.falls ≤ 1000000000 ∧ A.acts ≤ 1000000000 ∧ A.waits.length ≤ 100000000) := hid ⟨by have := M.falls; omega, by have := M.acts; omega, by have := M.waits; omega⟩
  have F2 : Hid (R.falls ≤ 1000000000 ∧ R.acts ≤ 1000000000 ∧ R.waits.length ≤ 100000000) := hid ⟨by rw [L.falls]; have := M.falls; omega, by rw [L.acts]; have := M.acts; omega, by rw [L.waits]; have := M.waits; omega⟩
  have F3 : Hid (A.waits.length ≤ 1000000000 ∧ R.waits.length ≤ 1000000000) := hid ⟨by have := F1.out.2.2; omega, by have := F2.out.2.2; omega⟩
  have HSB : Hid (0 < x.bytes.size → ∀ k, (Value.slice sp x.bytes.size sc).ownBlock = some k → ¬ k = b) := fun h0 k hk e => by have := hso h0 k hk; have := P.old b (.inl (.inl rfl)); omega
  have HSC : Hid (0 < x.bytes.size → ∀ k, (Value.slice sp x.bytes.size sc).ownBlock = some k → ¬ k = c) := fun h0 k hk e => by have := hso h0 k hk; have := P.old c (.inr (.inl rfl)); omega
  have HKBB : Hid (0 < x.keep.length → ∀ k, (Value.slice kp x.keep.length kc).ownBlock = some k → k ≠ b) := fun h0 k hk e => by have := hko h0 k hk; have := P.old b (.inl (.inl rfl)); omega
  have HKC : Hid (0 < x.keep.length → ∀ k, (Value.slice kp x.keep.length kc).ownBlock = some k → k ≠ c) := fun h0 k hk e => by have := hko h0 k hk; have := P.old c (.inr (.inl rfl)); omega
  obtain ⟨s1, s2⟩ := sb
  obtain ⟨k1, k2⟩ := kb
  have BT : Hid (∀ (W : World) (Y : Nat → Prop), Step (w.alloc (.cells (deedCells x sp kp sc kc) 37)) W (both b ow c oc) Y → Bytes W (.slice sp x.bytes.size sc) x.bytes) := fun W Y h => Bytes.turn (Bytes.new hs hn1) h.turn (fun h0 k hk hx => by have := hso h0 k hk; have := P.old k hx; omega)
  have KT : Hid (∀ (W : World) (Y : Nat → Prop), Step (w.alloc (.cells (deedCells x sp kp sc kc) 37)) W (both b ow c oc) Y → Bools W (.slice kp x.keep.length kc) x.keep) := fun W Y h => Bools.turned (RowAt.new hk hn1) h.turn (fun h0 k hk hx => by have := hko h0 k hk; have := P.old k hx; omega)
  have t0 : ((IntKind.u64.wrap x.kind).tmod 9 == 0) = false := by rw [hK]; rfl
  have t1 : ((IntKind.u64.wrap x.kind).tmod 9 == 1) = true := by rw [hK]; rfl
  have t2 : ((IntKind.u64.wrap x.kind).tmod 9 == 2) = false := by rw [hK]; rfl
  have t3 : ((IntKind.u64.wrap x.kind).tmod 9 == 3) = false := by rw [hK]; rfl
  have t4 : ((IntKind.u64.wrap x.kind).tmod 9 == 4) = false := by rw [hK]; rfl
  have t5 : ((IntKind.u64.wrap x.kind).tmod 9 == 5) = false := by rw [hK]; rfl
  have t6 : ((IntKind.u64.wrap x.kind).tmod 9 == 6) = false := by rw [hK]; rfl
  clear hK
  clear hlt hn1 hs hk hso hko L M P hn
  go_enter Try.func34, Try.ntmps34
  go_wp2_with fail
  refine (flush_any b ow A _ P1.out.disk F1.out.1 F1.out.2.1 F3.out.1).mono ?_
  intro e w2 h2
  obtain ⟨ow2, rfl, p2, s2'⟩ := P1.out.disk_moved h2
  have P2 := hid p2
  have S2 := hid (S1.out.trans s2')
  obtain ⟨ml2, l2⟩ := S2.out.local HLT.out
  clear h2 p2 s2'

  go_wp2_with fail
  refine (refFlush_any c oc R _ P2.out.ref F2.out.1 F2.out.2.1 F3.out.2).mono ?_
  intro e w3 h3
  obtain ⟨oc3, rfl, p3, s3'⟩ := P2.out.ref_moved h3
  have P3 := hid p3
  have S3 := hid (S2.out.trans s3')
  obtain ⟨ml3, l3⟩ := S3.out.local HLT.out
  clear h3 p3 s3' ml2 l2
  rw [HL.out.flush.1]

  go_wp2
  go_ret3
  exact ⟨_, _, _, _, _, _, rfl, P3.out, HL.out.flush.2, HM.out.flush, (Step.of_new HN1.out).trans S3.out⟩

set_option maxHeartbeats 4000000 in
set_option maxRecDepth 100000 in
theorem does_arm (w0 w : World) (b c : Nat) (ow oc : Option Nat) (A R : ADisk) (n : Nat) (x : Deed) (sp kp : Option Addr) (sc kc : Nat) (P : Pair w0 w b ow A c oc R) (L : Like A R) (M : Lim A n) (hn : n ≤ 1000)
    (hs : Bytes w (.slice sp x.bytes.size sc) x.bytes) (hk : Bools w (.slice kp x.keep.length kc) x.keep) (hso : 0 < x.bytes.size → ∀ k, (Value.slice sp x.bytes.size sc).ownBlock = some k → k < w0.heap.size) (hko : 0 < x.keep.length → ∀ k, (Value.slice kp x.keep.length kc).ownBlock = some k → k < w0.heap.size)
    (sb : x.bytes.size ≤ sc ∧ sc ≤ 2 ^ 63 - 1) (kb : x.keep.length ≤ kc ∧ kc ≤ 2 ^ 63 - 1) (hN : x.n ≤ 2 ^ 63 - 1)
    (hK : (IntKind.u64.wrap x.kind).tmod 9 = 2) :
    Calls Try.prog 34 #[.pointer (some ⟨b, 0, none⟩), .pointer (some ⟨c, 0, none⟩), .agg (deedCells x sp kp sc kc)] w (DoesBack w0 w b ow c oc n) := by
  have hlt : ∀ k, both b ow c oc k → k < w.heap.size := fun k hk => by
    rcases hk with h | h
    · exact P.disk.its_lt h
    · exact P.ref.its_lt h
  have hn1 : New w (w.alloc (.cells (deedCells x sp kp sc kc) 37)) := (New.refl w).alloc _ _
  have P1 := hid (P.newer hn1)
  have S1 : Hid (Step (w.alloc (.cells (deedCells x sp kp sc kc) 37)) (w.alloc (.cells (deedCells x sp kp sc kc) 37)) (both b ow c oc) (both b ow c oc)) := hid (Step.refl _ _)
  have HLT := hid hlt
  have HN1 := hid hn1
  have HS := hid hs
  have HKB := hid hk
  have HSO := hid hso
  have HKO := hid hko
  have HL := hid L
  have HM := hid M
  have HP := hid P
  have F1 : Hid (A.falls ≤ 1000000000 ∧ A.acts ≤ 1000000000 ∧ A.waits.length ≤ 100000000) := hid ⟨by have := M.falls; omega, by have := M.acts; omega, by have := M.waits; omega⟩
  have F2 : Hid (R.falls ≤ 1000000000 ∧ R.acts ≤ 1000000000 ∧ R.waits.length ≤ 100000000) := hid ⟨by rw [L.falls]; have := M.falls; omega, by rw [L.acts]; have := M.acts; omega, by rw [L.waits]; have := M.waits; omega⟩
  have F3 : Hid (A.waits.length ≤ 1000000000 ∧ R.waits.length ≤ 1000000000) := hid ⟨by have := F1.out.2.2; omega, by have := F2.out.2.2; omega⟩
  have HSB : Hid (0 < x.bytes.size → ∀ k, (Value.slice sp x.bytes.size sc).ownBlock = some k → ¬ k = b) := fun h0 k hk e => by have := hso h0 k hk; have := P.old b (.inl (.inl rfl)); omega
  have HSC : Hid (0 < x.bytes.size → ∀ k, (Value.slice sp x.bytes.size sc).ownBlock = some k → ¬ k = c) := fun h0 k hk e => by have := hso h0 k hk; have := P.old c (.inr (.inl rfl)); omega
  have HKBB : Hid (0 < x.keep.length → ∀ k, (Value.slice kp x.keep.length kc).ownBlock = some k → k ≠ b) := fun h0 k hk e => by have := hko h0 k hk; have := P.old b (.inl (.inl rfl)); omega
  have HKC : Hid (0 < x.keep.length → ∀ k, (Value.slice kp x.keep.length kc).ownBlock = some k → k ≠ c) := fun h0 k hk e => by have := hko h0 k hk; have := P.old c (.inr (.inl rfl)); omega
  obtain ⟨s1, s2⟩ := sb
  obtain ⟨k1, k2⟩ := kb
  have BT : Hid (∀ (W : World) (Y : Nat → Prop), Step (w.alloc (.cells (deedCells x sp kp sc kc) 37)) W (both b ow c oc) Y → Bytes W (.slice sp x.bytes.size sc) x.bytes) := fun W Y h => Bytes.turn (Bytes.new hs hn1) h.turn (fun h0 k hk hx => by have := hso h0 k hk; have := P.old k hx; omega)
  have KT : Hid (∀ (W : World) (Y : Nat → Prop), Step (w.alloc (.cells (deedCells x sp kp sc kc) 37)) W (both b ow c oc) Y → Bools W (.slice kp x.keep.length kc) x.keep) := fun W Y h => Bools.turned (RowAt.new hk hn1) h.turn (fun h0 k hk hx => by have := hko h0 k hk; have := P.old k hx; omega)
  have t0 : ((IntKind.u64.wrap x.kind).tmod 9 == 0) = false := by rw [hK]; rfl
  have t1 : ((IntKind.u64.wrap x.kind).tmod 9 == 1) = false := by rw [hK]; rfl
  have t2 : ((IntKind.u64.wrap x.kind).tmod 9 == 2) = true := by rw [hK]; rfl
  have t3 : ((IntKind.u64.wrap x.kind).tmod 9 == 3) = false := by rw [hK]; rfl
  have t4 : ((IntKind.u64.wrap x.kind).tmod 9 == 4) = false := by rw [hK]; rfl
  have t5 : ((IntKind.u64.wrap x.kind).tmod 9 == 5) = false := by rw [hK]; rfl
  have t6 : ((IntKind.u64.wrap x.kind).tmod 9 == 6) = false := by rw [hK]; rfl
  clear hK
  clear hlt hn1 hs hk hso hko L M P hn
  go_enter Try.func34, Try.ntmps34
  go_wp2_with fail
  refine (arm_any b ow A x.n _ P1.out.disk hN).mono ?_
  intro e w2 h2
  obtain ⟨ow2, rfl, p2, s2'⟩ := P1.out.disk_moved h2.moved
  have P2 := hid p2
  have S2 := hid (S1.out.trans s2')
  obtain ⟨ml2, l2⟩ := S2.out.local HLT.out
  clear h2 p2 s2'

  go_wp2_with fail
  refine (refArm_any c oc R x.n _ P2.out.ref hN).mono ?_
  intro e w3 h3
  obtain ⟨oc3, rfl, p3, s3'⟩ := P2.out.ref_moved h3.moved
  have P3 := hid p3
  have S3 := hid (S2.out.trans s3')
  obtain ⟨ml3, l3⟩ := S3.out.local HLT.out
  clear h3 p3 s3' ml2 l2


  go_wp2
  go_ret3
  exact ⟨_, _, _, _, _, _, rfl, P3.out, (HL.out.arm _), ((HM.out.arm _).mono (by omega)), (Step.of_new HN1.out).trans S3.out⟩

set_option maxHeartbeats 4000000 in
set_option maxRecDepth 100000 in
theorem does_crash (w0 w : World) (b c : Nat) (ow oc : Option Nat) (A R : ADisk) (n : Nat) (x : Deed) (sp kp : Option Addr) (sc kc : Nat) (P : Pair w0 w b ow A c oc R) (L : Like A R) (M : Lim A n) (hn : n ≤ 1000)
    (hs : Bytes w (.slice sp x.bytes.size sc) x.bytes) (hk : Bools w (.slice kp x.keep.length kc) x.keep) (hso : 0 < x.bytes.size → ∀ k, (Value.slice sp x.bytes.size sc).ownBlock = some k → k < w0.heap.size) (hko : 0 < x.keep.length → ∀ k, (Value.slice kp x.keep.length kc).ownBlock = some k → k < w0.heap.size)
    (sb : x.bytes.size ≤ sc ∧ sc ≤ 2 ^ 63 - 1) (kb : x.keep.length ≤ kc ∧ kc ≤ 2 ^ 63 - 1) (hN : x.n ≤ 2 ^ 63 - 1)
    (hK : (IntKind.u64.wrap x.kind).tmod 9 = 3) :
    Calls Try.prog 34 #[.pointer (some ⟨b, 0, none⟩), .pointer (some ⟨c, 0, none⟩), .agg (deedCells x sp kp sc kc)] w (DoesBack w0 w b ow c oc n) := by
  have hlt : ∀ k, both b ow c oc k → k < w.heap.size := fun k hk => by
    rcases hk with h | h
    · exact P.disk.its_lt h
    · exact P.ref.its_lt h
  have hn1 : New w (w.alloc (.cells (deedCells x sp kp sc kc) 37)) := (New.refl w).alloc _ _
  have P1 := hid (P.newer hn1)
  have S1 : Hid (Step (w.alloc (.cells (deedCells x sp kp sc kc) 37)) (w.alloc (.cells (deedCells x sp kp sc kc) 37)) (both b ow c oc) (both b ow c oc)) := hid (Step.refl _ _)
  have HLT := hid hlt
  have HN1 := hid hn1
  have HS := hid hs
  have HKB := hid hk
  have HSO := hid hso
  have HKO := hid hko
  have HL := hid L
  have HM := hid M
  have HP := hid P
  have F1 : Hid (A.falls ≤ 1000000000 ∧ A.acts ≤ 1000000000 ∧ A.waits.length ≤ 100000000) := hid ⟨by have := M.falls; omega, by have := M.acts; omega, by have := M.waits; omega⟩
  have F2 : Hid (R.falls ≤ 1000000000 ∧ R.acts ≤ 1000000000 ∧ R.waits.length ≤ 100000000) := hid ⟨by rw [L.falls]; have := M.falls; omega, by rw [L.acts]; have := M.acts; omega, by rw [L.waits]; have := M.waits; omega⟩
  have F3 : Hid (A.waits.length ≤ 1000000000 ∧ R.waits.length ≤ 1000000000) := hid ⟨by have := F1.out.2.2; omega, by have := F2.out.2.2; omega⟩
  have HSB : Hid (0 < x.bytes.size → ∀ k, (Value.slice sp x.bytes.size sc).ownBlock = some k → ¬ k = b) := fun h0 k hk e => by have := hso h0 k hk; have := P.old b (.inl (.inl rfl)); omega
  have HSC : Hid (0 < x.bytes.size → ∀ k, (Value.slice sp x.bytes.size sc).ownBlock = some k → ¬ k = c) := fun h0 k hk e => by have := hso h0 k hk; have := P.old c (.inr (.inl rfl)); omega
  have HKBB : Hid (0 < x.keep.length → ∀ k, (Value.slice kp x.keep.length kc).ownBlock = some k → k ≠ b) := fun h0 k hk e => by have := hko h0 k hk; have := P.old b (.inl (.inl rfl)); omega
  have HKC : Hid (0 < x.keep.length → ∀ k, (Value.slice kp x.keep.length kc).ownBlock = some k → k ≠ c) := fun h0 k hk e => by have := hko h0 k hk; have := P.old c (.inr (.inl rfl)); omega
  obtain ⟨s1, s2⟩ := sb
  obtain ⟨k1, k2⟩ := kb
  have BT : Hid (∀ (W : World) (Y : Nat → Prop), Step (w.alloc (.cells (deedCells x sp kp sc kc) 37)) W (both b ow c oc) Y → Bytes W (.slice sp x.bytes.size sc) x.bytes) := fun W Y h => Bytes.turn (Bytes.new hs hn1) h.turn (fun h0 k hk hx => by have := hso h0 k hk; have := P.old k hx; omega)
  have KT : Hid (∀ (W : World) (Y : Nat → Prop), Step (w.alloc (.cells (deedCells x sp kp sc kc) 37)) W (both b ow c oc) Y → Bools W (.slice kp x.keep.length kc) x.keep) := fun W Y h => Bools.turned (RowAt.new hk hn1) h.turn (fun h0 k hk hx => by have := hko h0 k hk; have := P.old k hx; omega)
  have t0 : ((IntKind.u64.wrap x.kind).tmod 9 == 0) = false := by rw [hK]; rfl
  have t1 : ((IntKind.u64.wrap x.kind).tmod 9 == 1) = false := by rw [hK]; rfl
  have t2 : ((IntKind.u64.wrap x.kind).tmod 9 == 2) = false := by rw [hK]; rfl
  have t3 : ((IntKind.u64.wrap x.kind).tmod 9 == 3) = true := by rw [hK]; rfl
  have t4 : ((IntKind.u64.wrap x.kind).tmod 9 == 4) = false := by rw [hK]; rfl
  have t5 : ((IntKind.u64.wrap x.kind).tmod 9 == 5) = false := by rw [hK]; rfl
  have t6 : ((IntKind.u64.wrap x.kind).tmod 9 == 6) = false := by rw [hK]; rfl
  clear hK
  clear hlt hn1 hs hk hso hko L M P hn
  go_enter Try.func34, Try.ntmps34
  go_wp2_with fail
  refine (crash_any b ow A _ x.keep x.n _ P1.out.disk HM.out.small F1.out.1 F3.out.1 (KT.out _ _ S1.out) HKBB.out hN).mono ?_
  intro e w2 h2
  obtain ⟨ow2, rfl, p2, s2'⟩ := P1.out.disk_moved h2
  have P2 := hid p2
  have S2 := hid (S1.out.trans s2')
  obtain ⟨ml2, l2⟩ := S2.out.local HLT.out
  clear h2 p2 s2'

  go_wp2_with fail
  refine (refCrash_any c oc R _ x.keep x.n _ P2.out.ref (HL.out.lim HM.out).small F2.out.1 F3.out.2 (KT.out _ _ S2.out) HKC.out hN).mono ?_
  intro e w3 h3
  obtain ⟨oc3, rfl, p3, s3'⟩ := P2.out.ref_moved h3
  have P3 := hid p3
  have S3 := hid (S2.out.trans s3')
  obtain ⟨ml3, l3⟩ := S3.out.local HLT.out
  clear h3 p3 s3' ml2 l2


  go_wp2
  go_ret3
  exact ⟨_, _, _, _, _, _, rfl, P3.out, (HL.out.crash x.keep x.n), (HM.out.crash x.keep x.n), (Step.of_new HN1.out).trans S3.out⟩

set_option maxHeartbeats 4000000 in
set_option maxRecDepth 100000 in
theorem does_start (w0 w : World) (b c : Nat) (ow oc : Option Nat) (A R : ADisk) (n : Nat) (x : Deed) (sp kp : Option Addr) (sc kc : Nat) (P : Pair w0 w b ow A c oc R) (L : Like A R) (M : Lim A n) (hn : n ≤ 1000)
    (hs : Bytes w (.slice sp x.bytes.size sc) x.bytes) (hk : Bools w (.slice kp x.keep.length kc) x.keep) (hso : 0 < x.bytes.size → ∀ k, (Value.slice sp x.bytes.size sc).ownBlock = some k → k < w0.heap.size) (hko : 0 < x.keep.length → ∀ k, (Value.slice kp x.keep.length kc).ownBlock = some k → k < w0.heap.size)
    (sb : x.bytes.size ≤ sc ∧ sc ≤ 2 ^ 63 - 1) (kb : x.keep.length ≤ kc ∧ kc ≤ 2 ^ 63 - 1) (hN : x.n ≤ 2 ^ 63 - 1)
    (hK : (IntKind.u64.wrap x.kind).tmod 9 = 4) :
    Calls Try.prog 34 #[.pointer (some ⟨b, 0, none⟩), .pointer (some ⟨c, 0, none⟩), .agg (deedCells x sp kp sc kc)] w (DoesBack w0 w b ow c oc n) := by
  have hlt : ∀ k, both b ow c oc k → k < w.heap.size := fun k hk => by
    rcases hk with h | h
    · exact P.disk.its_lt h
    · exact P.ref.its_lt h
  have hn1 : New w (w.alloc (.cells (deedCells x sp kp sc kc) 37)) := (New.refl w).alloc _ _
  have P1 := hid (P.newer hn1)
  have S1 : Hid (Step (w.alloc (.cells (deedCells x sp kp sc kc) 37)) (w.alloc (.cells (deedCells x sp kp sc kc) 37)) (both b ow c oc) (both b ow c oc)) := hid (Step.refl _ _)
  have HLT := hid hlt
  have HN1 := hid hn1
  have HS := hid hs
  have HKB := hid hk
  have HSO := hid hso
  have HKO := hid hko
  have HL := hid L
  have HM := hid M
  have HP := hid P
  have F1 : Hid (A.falls ≤ 1000000000 ∧ A.acts ≤ 1000000000 ∧ A.waits.length ≤ 100000000) := hid ⟨by have := M.falls; omega, by have := M.acts; omega, by have := M.waits; omega⟩
  have F2 : Hid (R.falls ≤ 1000000000 ∧ R.acts ≤ 1000000000 ∧ R.waits.length ≤ 100000000) := hid ⟨by rw [L.falls]; have := M.falls; omega, by rw [L.acts]; have := M.acts; omega, by rw [L.waits]; have := M.waits; omega⟩
  have F3 : Hid (A.waits.length ≤ 1000000000 ∧ R.waits.length ≤ 1000000000) := hid ⟨by have := F1.out.2.2; omega, by have := F2.out.2.2; omega⟩
  have HSB : Hid (0 < x.bytes.size → ∀ k, (Value.slice sp x.bytes.size sc).ownBlock = some k → ¬ k = b) := fun h0 k hk e => by have := hso h0 k hk; have := P.old b (.inl (.inl rfl)); omega
  have HSC : Hid (0 < x.bytes.size → ∀ k, (Value.slice sp x.bytes.size sc).ownBlock = some k → ¬ k = c) := fun h0 k hk e => by have := hso h0 k hk; have := P.old c (.inr (.inl rfl)); omega
  have HKBB : Hid (0 < x.keep.length → ∀ k, (Value.slice kp x.keep.length kc).ownBlock = some k → k ≠ b) := fun h0 k hk e => by have := hko h0 k hk; have := P.old b (.inl (.inl rfl)); omega
  have HKC : Hid (0 < x.keep.length → ∀ k, (Value.slice kp x.keep.length kc).ownBlock = some k → k ≠ c) := fun h0 k hk e => by have := hko h0 k hk; have := P.old c (.inr (.inl rfl)); omega
  obtain ⟨s1, s2⟩ := sb
  obtain ⟨k1, k2⟩ := kb
  have BT : Hid (∀ (W : World) (Y : Nat → Prop), Step (w.alloc (.cells (deedCells x sp kp sc kc) 37)) W (both b ow c oc) Y → Bytes W (.slice sp x.bytes.size sc) x.bytes) := fun W Y h => Bytes.turn (Bytes.new hs hn1) h.turn (fun h0 k hk hx => by have := hso h0 k hk; have := P.old k hx; omega)
  have KT : Hid (∀ (W : World) (Y : Nat → Prop), Step (w.alloc (.cells (deedCells x sp kp sc kc) 37)) W (both b ow c oc) Y → Bools W (.slice kp x.keep.length kc) x.keep) := fun W Y h => Bools.turned (RowAt.new hk hn1) h.turn (fun h0 k hk hx => by have := hko h0 k hk; have := P.old k hx; omega)
  have t0 : ((IntKind.u64.wrap x.kind).tmod 9 == 0) = false := by rw [hK]; rfl
  have t1 : ((IntKind.u64.wrap x.kind).tmod 9 == 1) = false := by rw [hK]; rfl
  have t2 : ((IntKind.u64.wrap x.kind).tmod 9 == 2) = false := by rw [hK]; rfl
  have t3 : ((IntKind.u64.wrap x.kind).tmod 9 == 3) = false := by rw [hK]; rfl
  have t4 : ((IntKind.u64.wrap x.kind).tmod 9 == 4) = true := by rw [hK]; rfl
  have t5 : ((IntKind.u64.wrap x.kind).tmod 9 == 5) = false := by rw [hK]; rfl
  have t6 : ((IntKind.u64.wrap x.kind).tmod 9 == 6) = false := by rw [hK]; rfl
  clear hK
  clear hlt hn1 hs hk hso hko L M P hn
  go_enter Try.func34, Try.ntmps34
  go_wp2_with fail
  refine (start_any b ow A _ P1.out.disk).mono ?_
  intro e w2 h2
  obtain ⟨ow2, rfl, p2, s2'⟩ := P1.out.disk_moved h2.moved
  have P2 := hid p2
  have S2 := hid (S1.out.trans s2')
  obtain ⟨ml2, l2⟩ := S2.out.local HLT.out
  clear h2 p2 s2'

  go_wp2_with fail
  refine (refStart_any c oc R _ P2.out.ref).mono ?_
  intro e w3 h3
  obtain ⟨oc3, rfl, p3, s3'⟩ := P2.out.ref_moved h3.moved
  have P3 := hid p3
  have S3 := hid (S2.out.trans s3')
  obtain ⟨ml3, l3⟩ := S3.out.local HLT.out
  clear h3 p3 s3' ml2 l2


  go_wp2
  go_ret3
  exact ⟨_, _, _, _, _, _, rfl, P3.out, HL.out.start, (HM.out.start.mono (by omega)), (Step.of_new HN1.out).trans S3.out⟩

set_option maxHeartbeats 4000000 in
set_option maxRecDepth 100000 in
theorem does_copy (w0 w : World) (b c : Nat) (ow oc : Option Nat) (A R : ADisk) (n : Nat) (x : Deed) (sp kp : Option Addr) (sc kc : Nat) (P : Pair w0 w b ow A c oc R) (L : Like A R) (M : Lim A n) (hn : n ≤ 1000)
    (hs : Bytes w (.slice sp x.bytes.size sc) x.bytes) (hk : Bools w (.slice kp x.keep.length kc) x.keep) (hso : 0 < x.bytes.size → ∀ k, (Value.slice sp x.bytes.size sc).ownBlock = some k → k < w0.heap.size) (hko : 0 < x.keep.length → ∀ k, (Value.slice kp x.keep.length kc).ownBlock = some k → k < w0.heap.size)
    (sb : x.bytes.size ≤ sc ∧ sc ≤ 2 ^ 63 - 1) (kb : x.keep.length ≤ kc ∧ kc ≤ 2 ^ 63 - 1) (hN : x.n ≤ 2 ^ 63 - 1)
    (hK : (IntKind.u64.wrap x.kind).tmod 9 = 6) :
    Calls Try.prog 34 #[.pointer (some ⟨b, 0, none⟩), .pointer (some ⟨c, 0, none⟩), .agg (deedCells x sp kp sc kc)] w (DoesBack w0 w b ow c oc n) := by
  have hlt : ∀ k, both b ow c oc k → k < w.heap.size := fun k hk => by
    rcases hk with h | h
    · exact P.disk.its_lt h
    · exact P.ref.its_lt h
  have hn1 : New w (w.alloc (.cells (deedCells x sp kp sc kc) 37)) := (New.refl w).alloc _ _
  have P1 := hid (P.newer hn1)
  have S1 : Hid (Step (w.alloc (.cells (deedCells x sp kp sc kc) 37)) (w.alloc (.cells (deedCells x sp kp sc kc) 37)) (both b ow c oc) (both b ow c oc)) := hid (Step.refl _ _)
  have HLT := hid hlt
  have HN1 := hid hn1
  have HS := hid hs
  have HKB := hid hk
  have HSO := hid hso
  have HKO := hid hko
  have HL := hid L
  have HM := hid M
  have HP := hid P
  have F1 : Hid (A.falls ≤ 1000000000 ∧ A.acts ≤ 1000000000 ∧ A.waits.length ≤ 100000000) := hid ⟨by have := M.falls; omega, by have := M.acts; omega, by have := M.waits; omega⟩
  have F2 : Hid (R.falls ≤ 1000000000 ∧ R.acts ≤ 1000000000 ∧ R.waits.length ≤ 100000000) := hid ⟨by rw [L.falls]; have := M.falls; omega, by rw [L.acts]; have := M.acts; omega, by rw [L.waits]; have := M.waits; omega⟩
  have F3 : Hid (A.waits.length ≤ 1000000000 ∧ R.waits.length ≤ 1000000000) := hid ⟨by have := F1.out.2.2; omega, by have := F2.out.2.2; omega⟩
  have HSB : Hid (0 < x.bytes.size → ∀ k, (Value.slice sp x.bytes.size sc).ownBlock = some k → ¬ k = b) := fun h0 k hk e => by have := hso h0 k hk; have := P.old b (.inl (.inl rfl)); omega
  have HSC : Hid (0 < x.bytes.size → ∀ k, (Value.slice sp x.bytes.size sc).ownBlock = some k → ¬ k = c) := fun h0 k hk e => by have := hso h0 k hk; have := P.old c (.inr (.inl rfl)); omega
  have HKBB : Hid (0 < x.keep.length → ∀ k, (Value.slice kp x.keep.length kc).ownBlock = some k → k ≠ b) := fun h0 k hk e => by have := hko h0 k hk; have := P.old b (.inl (.inl rfl)); omega
  have HKC : Hid (0 < x.keep.length → ∀ k, (Value.slice kp x.keep.length kc).ownBlock = some k → k ≠ c) := fun h0 k hk e => by have := hko h0 k hk; have := P.old c (.inr (.inl rfl)); omega
  obtain ⟨s1, s2⟩ := sb
  obtain ⟨k1, k2⟩ := kb
  have BT : Hid (∀ (W : World) (Y : Nat → Prop), Step (w.alloc (.cells (deedCells x sp kp sc kc) 37)) W (both b ow c oc) Y → Bytes W (.slice sp x.bytes.size sc) x.bytes) := fun W Y h => Bytes.turn (Bytes.new hs hn1) h.turn (fun h0 k hk hx => by have := hso h0 k hk; have := P.old k hx; omega)
  have KT : Hid (∀ (W : World) (Y : Nat → Prop), Step (w.alloc (.cells (deedCells x sp kp sc kc) 37)) W (both b ow c oc) Y → Bools W (.slice kp x.keep.length kc) x.keep) := fun W Y h => Bools.turned (RowAt.new hk hn1) h.turn (fun h0 k hk hx => by have := hko h0 k hk; have := P.old k hx; omega)
  have t0 : ((IntKind.u64.wrap x.kind).tmod 9 == 0) = false := by rw [hK]; rfl
  have t1 : ((IntKind.u64.wrap x.kind).tmod 9 == 1) = false := by rw [hK]; rfl
  have t2 : ((IntKind.u64.wrap x.kind).tmod 9 == 2) = false := by rw [hK]; rfl
  have t3 : ((IntKind.u64.wrap x.kind).tmod 9 == 3) = false := by rw [hK]; rfl
  have t4 : ((IntKind.u64.wrap x.kind).tmod 9 == 4) = false := by rw [hK]; rfl
  have t5 : ((IntKind.u64.wrap x.kind).tmod 9 == 5) = false := by rw [hK]; rfl
  have t6 : ((IntKind.u64.wrap x.kind).tmod 9 == 6) = true := by rw [hK]; rfl
  clear hK
  clear hlt hn1 hs hk hso hko L M P hn
  go_enter Try.func34, Try.ntmps34
  go_wp2_with fail
  refine (copy_any b ow A _ P1.out.disk F3.out.1).mono ?_
  intro e w2 h2
  obtain ⟨b2, ow2, rfl, p2, s2'⟩ := P1.out.disk_copied h2
  have P2 := hid p2
  have S2 := hid (S1.out.trans s2')
  obtain ⟨ml2, l2⟩ := S2.out.local HLT.out
  clear h2 p2 s2'

  go_wp2_with fail
  refine (refCopy_any c oc R _ P2.out.ref F2.out.2.2).mono ?_
  intro e w3 h3
  obtain ⟨c3, oc3, rfl, p3, s3'⟩ := P2.out.ref_copied h3
  have P3 := hid p3
  have S3 := hid (S2.out.trans s3')
  obtain ⟨ml3, l3⟩ := S3.out.local HLT.out
  clear h3 p3 s3' ml2 l2


  go_wp2
  go_ret3
  exact ⟨_, _, _, _, _, _, rfl, P3.out, HL.out, (HM.out.mono (by omega)), (Step.of_new HN1.out).trans S3.out⟩

set_option maxHeartbeats 4000000 in
set_option maxRecDepth 100000 in
theorem does_none (w0 w : World) (b c : Nat) (ow oc : Option Nat) (A R : ADisk) (n : Nat) (x : Deed) (sp kp : Option Addr) (sc kc : Nat) (P : Pair w0 w b ow A c oc R) (L : Like A R) (M : Lim A n) (hn : n ≤ 1000)
    (hs : Bytes w (.slice sp x.bytes.size sc) x.bytes) (hk : Bools w (.slice kp x.keep.length kc) x.keep) (hso : 0 < x.bytes.size → ∀ k, (Value.slice sp x.bytes.size sc).ownBlock = some k → k < w0.heap.size) (hko : 0 < x.keep.length → ∀ k, (Value.slice kp x.keep.length kc).ownBlock = some k → k < w0.heap.size)
    (sb : x.bytes.size ≤ sc ∧ sc ≤ 2 ^ 63 - 1) (kb : x.keep.length ≤ kc ∧ kc ≤ 2 ^ 63 - 1) (hN : x.n ≤ 2 ^ 63 - 1)
    (hK : (IntKind.u64.wrap x.kind).tmod 9 ≠ 0 ∧ (IntKind.u64.wrap x.kind).tmod 9 ≠ 1 ∧ (IntKind.u64.wrap x.kind).tmod 9 ≠ 2 ∧ (IntKind.u64.wrap x.kind).tmod 9 ≠ 3 ∧ (IntKind.u64.wrap x.kind).tmod 9 ≠ 4 ∧ (IntKind.u64.wrap x.kind).tmod 9 ≠ 5 ∧ (IntKind.u64.wrap x.kind).tmod 9 ≠ 6) :
    Calls Try.prog 34 #[.pointer (some ⟨b, 0, none⟩), .pointer (some ⟨c, 0, none⟩), .agg (deedCells x sp kp sc kc)] w (DoesBack w0 w b ow c oc n) := by
  have hlt : ∀ k, both b ow c oc k → k < w.heap.size := fun k hk => by
    rcases hk with h | h
    · exact P.disk.its_lt h
    · exact P.ref.its_lt h
  have hn1 : New w (w.alloc (.cells (deedCells x sp kp sc kc) 37)) := (New.refl w).alloc _ _
  have P1 := hid (P.newer hn1)
  have S1 : Hid (Step (w.alloc (.cells (deedCells x sp kp sc kc) 37)) (w.alloc (.cells (deedCells x sp kp sc kc) 37)) (both b ow c oc) (both b ow c oc)) := hid (Step.refl _ _)
  have HLT := hid hlt
  have HN1 := hid hn1
  have HS := hid hs
  have HKB := hid hk
  have HSO := hid hso
  have HKO := hid hko
  have HL := hid L
  have HM := hid M
  have HP := hid P
  have F1 : Hid (A.falls ≤ 1000000000 ∧ A.acts ≤ 1000000000 ∧ A.waits.length ≤ 100000000) := hid ⟨by have := M.falls; omega, by have := M.acts; omega, by have := M.waits; omega⟩
  have F2 : Hid (R.falls ≤ 1000000000 ∧ R.acts ≤ 1000000000 ∧ R.waits.length ≤ 100000000) := hid ⟨by rw [L.falls]; have := M.falls; omega, by rw [L.acts]; have := M.acts; omega, by rw [L.waits]; have := M.waits; omega⟩
  have F3 : Hid (A.waits.length ≤ 1000000000 ∧ R.waits.length ≤ 1000000000) := hid ⟨by have := F1.out.2.2; omega, by have := F2.out.2.2; omega⟩
  have HSB : Hid (0 < x.bytes.size → ∀ k, (Value.slice sp x.bytes.size sc).ownBlock = some k → ¬ k = b) := fun h0 k hk e => by have := hso h0 k hk; have := P.old b (.inl (.inl rfl)); omega
  have HSC : Hid (0 < x.bytes.size → ∀ k, (Value.slice sp x.bytes.size sc).ownBlock = some k → ¬ k = c) := fun h0 k hk e => by have := hso h0 k hk; have := P.old c (.inr (.inl rfl)); omega
  have HKBB : Hid (0 < x.keep.length → ∀ k, (Value.slice kp x.keep.length kc).ownBlock = some k → k ≠ b) := fun h0 k hk e => by have := hko h0 k hk; have := P.old b (.inl (.inl rfl)); omega
  have HKC : Hid (0 < x.keep.length → ∀ k, (Value.slice kp x.keep.length kc).ownBlock = some k → k ≠ c) := fun h0 k hk e => by have := hko h0 k hk; have := P.old c (.inr (.inl rfl)); omega
  obtain ⟨s1, s2⟩ := sb
  obtain ⟨k1, k2⟩ := kb
  have BT : Hid (∀ (W : World) (Y : Nat → Prop), Step (w.alloc (.cells (deedCells x sp kp sc kc) 37)) W (both b ow c oc) Y → Bytes W (.slice sp x.bytes.size sc) x.bytes) := fun W Y h => Bytes.turn (Bytes.new hs hn1) h.turn (fun h0 k hk hx => by have := hso h0 k hk; have := P.old k hx; omega)
  have KT : Hid (∀ (W : World) (Y : Nat → Prop), Step (w.alloc (.cells (deedCells x sp kp sc kc) 37)) W (both b ow c oc) Y → Bools W (.slice kp x.keep.length kc) x.keep) := fun W Y h => Bools.turned (RowAt.new hk hn1) h.turn (fun h0 k hk hx => by have := hko h0 k hk; have := P.old k hx; omega)
  have t0 : ((IntKind.u64.wrap x.kind).tmod 9 == 0) = false := by simp; omega
  have t1 : ((IntKind.u64.wrap x.kind).tmod 9 == 1) = false := by simp; omega
  have t2 : ((IntKind.u64.wrap x.kind).tmod 9 == 2) = false := by simp; omega
  have t3 : ((IntKind.u64.wrap x.kind).tmod 9 == 3) = false := by simp; omega
  have t4 : ((IntKind.u64.wrap x.kind).tmod 9 == 4) = false := by simp; omega
  have t5 : ((IntKind.u64.wrap x.kind).tmod 9 == 5) = false := by simp; omega
  have t6 : ((IntKind.u64.wrap x.kind).tmod 9 == 6) = false := by simp; omega
  clear hK
  clear hlt hn1 hs hk hso hko L M P hn
  go_enter Try.func34, Try.ntmps34
  go_wp2
  go_ret3
  exact ⟨_, _, _, _, _, _, rfl, P1.out, HL.out, HM.out.mono (by omega), (Step.of_new HN1.out).trans S1.out⟩

end Go.Proofs.Ytbclgklpcbajfaa

