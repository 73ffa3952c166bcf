/- disk.Disk.Crash at each made disk. -/
import Derived.Test.YtbclgklpcbajfaaD8
import Derived.Test.YtbclgklpcbajfaaD6
import Derived.Deep.RegionHeld3
namespace Go.Proofs.Ytbclgklpcbajfaa
open Go.RowKit
set_option linter.unusedSimpArgs false
set_option linter.unusedVariables false

/-- What the loss of power makes of the first i waiting writes. -/
def crashTo (l : List (Nat × ByteArray)) (keep : List Bool) (k : Nat) (s : Nat → ByteArray) : Nat → (Nat → ByteArray)
  | 0 => s
  | i + 1 => match l[i]? with
    | none => crashTo l keep k s i
    | some p => if keep.getD i false then (if i + 1 = l.length then lay1 (crashTo l keep k s i) (p.1, tornB (crashTo l keep k s i p.1) p.2 k) else lay1 (crashTo l keep k s i) p) else crashTo l keep k s i
def crashA (A : ADisk) (keep : List Bool) (k : Int) : ADisk := fallA { A with waits := [], safe := crashTo A.waits keep (max k 0).toNat A.safe A.waits.length }

theorem crashTo_skip {l : List (Nat × ByteArray)} {keep : List Bool} {k : Nat} {s : Nat → ByteArray} {i : Nat} (h : keep.getD i false = false) : crashTo l keep k s (i + 1) = crashTo l keep k s i := by
  rw [crashTo]
  cases l[i]? with
  | none => rfl
  | some p => exact if_neg (by rw [h]; decide)
theorem crashTo_keep {l : List (Nat × ByteArray)} {keep : List Bool} {k : Nat} {s : Nat → ByteArray} {i : Nat} (hi : i < l.length) (h : keep.getD i false = true) (hl : i + 1 ≠ l.length) : crashTo l keep k s (i + 1) = lay1 (crashTo l keep k s i) l[i] := by
  rw [crashTo, List.getElem?_eq_getElem hi]
  exact (if_pos h).trans (if_neg hl)
theorem crashTo_last {l : List (Nat × ByteArray)} {keep : List Bool} {k : Nat} {s : Nat → ByteArray} {i : Nat} (hi : i < l.length) (h : keep.getD i false = true) (hl : i + 1 = l.length) :
    crashTo l keep k s (i + 1) = lay1 (crashTo l keep k s i) (l[i].1, tornB (crashTo l keep k s i l[i].1) l[i].2 k) := by
  rw [crashTo, List.getElem?_eq_getElem hi]
  exact (if_pos h).trans (if_pos hl)
theorem tornB_size (a b : ByteArray) (n : Nat) : (tornB a b n).size ≤ max a.size b.size := by
  unfold tornB
  split
  · omega
  · simp
    omega
theorem crashTo_small {l : List (Nat × ByteArray)} {keep : List Bool} {k : Nat} {s : Nat → ByteArray} (h1 : ∀ i, i < 3120 → (s i).size ≤ 340) (h2 : ∀ p ∈ l, p.2.size ≤ 340) (h3 : ∀ p ∈ l, p.1 < 3120) (i : Nat) : ∀ j, j < 3120 → (crashTo l keep k s i j).size ≤ 340 := by
  induction i with
  | zero => exact h1
  | succ i ih =>
    intro j hj
    rw [crashTo]
    cases e : l[i]? with
    | none => exact ih j hj
    | some p =>
      have hp : p ∈ l := List.mem_of_getElem? e
      simp only
      split
      · split
        · simp only [lay1]
          split
          · have := tornB_size (crashTo l keep k s i p.1) p.2 k
            have := ih p.1 (h3 p hp)
            have := h2 p hp
            omega
          · exact ih j hj
        · simp only [lay1]
          split
          · exact h2 p hp
          · exact ih j hj
      · exact ih j hj

/-- A list of booleans. -/
def Bools (w : World) (v : Value) (l : List Bool) : Prop := RowAt w v l.length (l.map Value.bool)
theorem Bools.at {w : World} {b o : Nat} {l : List Bool} (hc : ∀ i, i < (l.map Value.bool).length → w.cell? ⟨b, o + i, none⟩ = some ((l.map Value.bool).getD i undef)) {i : Nat} (hi : i < l.length) : w.cell? ⟨b, o + i, none⟩ = some (.bool l[i]) := by
  rw [hc i (by simpa using hi)]
  simp [hi]

theorem other_cell (w : World) (a : Addr) (u : Value) (c : Addr) (h : a.block ≠ c.block) : (w.setCell a u).cell? c = w.cell? c := World.cell?_of_block (w := w) (Below.heap_setCell _ _ _ _ (Ne.symm h))
theorem torn_at (kk n : Int) (hn : n = max kk 0) (u1 u2 : Value) (s1 s2 t : ByteArray) (ht : t = tornB s1 s2 (max kk 0).toNat) (w : World) (h1 : Bytes w u1 s1) (h2 : Content w u2 s2) (hs1 : s1.size ≤ 1000) (hs2 : s2.size ≤ 1000) :
    Calls Try.prog 67 #[u1, u2, .int .i64 n] w (ContentBack t w) := by
  subst hn ht; exact torn_any u1 u2 s1 s2 _ w h1 h2 (by omega) hs1 hs2

set_option maxHeartbeats 8000000 in
set_option maxRecDepth 100000 in
theorem crash_any (b : Nat) (ow : Option Nat) (A : ADisk) (v : Value) (keep : List Bool) (kk : Int) (w : World) (h : DiskAt w b ow A) (hs : Small A) (hb : A.falls ≤ 1000000000) (hb3 : A.waits.length ≤ 1000000000)
    (hv : Bools w v keep) (hvb : 0 < keep.length → ∀ g, v.ownBlock = some g → g ≠ b) (hk63 : kk ≤ 2 ^ 63 - 1) :
    Calls Try.prog 25 #[.pointer (some ⟨b, 0, none⟩), v, .int .i64 kk] w (DiskMoved b ow (.int .i64 0) (crashA A keep kk) w) := by
  have hd0 := h
  obtain ⟨f, hr, hd⟩ := h
  have c0 := hr.cell 0 (by omega)
  rw [hd.made] at c0
  have c1 := hr.cell 3121 (by omega)
  obtain ⟨q, k, ew, _⟩ := waits_slice hd.waits
  have hlt := hr.lt
  rw [ew] at c1
  have HS : Hid (Laying w w b ow A (crashTo A.waits keep (max kk 0).toNat A.safe 0) (.slice q A.waits.length k)) := hid ⟨⟨f, hr, hd, ew⟩, Turn.refl _ _⟩
  have HIN := hid hd.inside
  clear hr hd ew hd0
  obtain ⟨kp, kc, rfl, g1, g2, g3⟩ := hv
  unfold maxLen at g2
  have HSM := hid hs
  have HB := hid hb
  clear hs hb
  go_enter Try.func25, Try.ntmps25
  go_wp2_with fail
  refine (none_no b w c0).mono ?_
  rintro e w' ⟨rfl, rfl⟩
  go_wp2
  go_loopw [16] (fun i wr => ∃ j : Nat, j ≤ A.waits.length ∧ i = .int .i64 j ∧ Hid (Laying w wr b ow A (crashTo A.waits keep (max kk 0).toNat A.safe j) (.slice q A.waits.length k))) (fun i _ => A.waits.length - (intOf i).toNat)
  case atStart => exact ⟨0, Nat.zero_le _, rfl, HS⟩
  case round =>
    obtain ⟨j, hj, rfl, hL⟩ := hrel
    by_cases hlt2 : j < A.waits.length
    · obtain ⟨⟨f2, hr2, hi2, e2⟩, ht2⟩ := hL.out
      obtain ⟨g, cap, u, e3, eo, hg, d0, d1, hu⟩ := hi2.waits.at hlt2
      obtain ⟨p, cu, eu⟩ : ∃ p cu, u = .slice p A.waits[j].2.size cu := by obtain ⟨p, c, e, _⟩ := hu.1; exact ⟨p, c, e⟩
      rw [e2] at e3
      injection e3 with e3 _ e4
      subst e3 e4 eu
      have hin := hi2.inside _ (List.getElem_mem hlt2)
      have cb := hr2.cell (1 + A.waits[j].1) (by omega)
      have zb := hr2.frozen (1 + A.waits[j].1)
      have cw := hr2.cell 3121 (by omega)
      rw [e2] at cw
      have hbl := hr2.lt
      obtain ⟨po, so, co, eso⟩ : ∃ p s c, f2 (1 + A.waits[j].1) = .slice p s c := by obtain ⟨⟨p, c, e, _⟩, _⟩ := hi2.safe _ hin; exact ⟨_, _, _, e⟩
      have hold := hi2.safe _ hin
      rw [eso] at cb hold
      have HOLD := hid hold
      have HU := hid hu
      have HIN2 := hid hin
      have HL := hid hL.out
      clear hr2 hi2 hu e2 hL HS hold ht2 eso
      by_cases hkj : j < keep.length
      · obtain ⟨kb, ko, rfl, hkb, hkc⟩ := g3 (by omega)
        have hkne : kb ≠ b := hvb (by omega) kb rfl
        have hkl : kb < wr.heap.size := Nat.lt_of_lt_of_le hkb HL.out.turn.size
        have ck : wr.cell? ⟨kb, ko + j, none⟩ = some (.bool keep[j]) := by
          rw [World.cell?_of_block (w := w) (a := ⟨kb, ko + j, none⟩) (HL.out.turn.block kb hkb hkne)]
          exact Bools.at hkc hkj
        cases hkv : keep[j] with
        | false =>
          rw [hkv] at ck
          have HK := hid (show keep.getD j false = false by simp [hkj, hkv])
          clear hkv hkc g3
          go_wp2
          go_roundw
          case rel => exact ⟨j + 1, by omega, by go_num, hid (by rw [crashTo_skip HK.out]; exact HL.out.new ((New.refl wr).alloc _ _))⟩
          case measure => simp [intOf]; omega
        | true =>
          rw [hkv] at ck
          have HK := hid (show keep.getD j false = true by simp [hkj, hkv])
          clear hkv hkc g3
          by_cases hlast : j + 1 = A.waits.length
          · have hl1 : (j : Int) = (A.waits.length : Int) - 1 := by omega
            have hbool : ((j : Int) == (A.waits.length : Int) - 1) = true := by simpa using hl1
            have HLA := hid hlast
            clear hl1 hlast
            have HNW := hid ((New.refl wr).alloc #[.int .i64 A.waits[j].1, .slice p A.waits[j].2.size cu] 97)
            have HS2 := hid (show A.waits[j].2.size ≤ 1000 by have := HSM.out.2 _ (List.getElem_mem hlt2); omega)
            have HS1 := hid (show (crashTo A.waits keep (max kk 0).toNat A.safe j A.waits[j].1).size ≤ 1000 by have := crashTo_small (keep := keep) (k := (max kk 0).toNat) HSM.out.1 HSM.out.2 HIN.out j A.waits[j].1 HIN2.out; omega)
            obtain ⟨t, HTT⟩ : ∃ t, Hid (t = tornB (crashTo A.waits keep (max kk 0).toNat A.safe j A.waits[j].1) A.waits[j].2 (max kk 0).toNat) := ⟨_, hid rfl⟩
            have hbA : b < (wr.alloc (.cells #[.int .i64 A.waits[j].1, .slice p A.waits[j].2.size cu] 97)).drew.heap.size := Nat.lt_of_lt_of_le hbl HNW.out.drew.size
            have hbB : wr.heap.size < (wr.alloc (.cells #[.int .i64 A.waits[j].1, .slice p A.waits[j].2.size cu] 97)).drew.heap.size := by show _ < (wr.alloc _).heap.size; simp
            have HF0 := hid (show (wr.alloc (.cells #[.int .i64 A.waits[j].1, .slice p A.waits[j].2.size cu] 97)).drew.cell? ⟨wr.heap.size, 0, none⟩ = some (.int .i64 A.waits[j].1) from (cell_made wr _ 97 0).trans rfl)
            have HF1 := hid (show (wr.alloc (.cells #[.int .i64 A.waits[j].1, .slice p A.waits[j].2.size cu] 97)).drew.cell? ⟨wr.heap.size, 1, none⟩ = some (.slice p A.waits[j].2.size cu) from (cell_made wr _ 97 1).trans rfl)
            have HF2 := hid ((HNW.out.drew.cell b (1 + A.waits[j].1) hbl).trans cb)
            have HZ := hid (((bcell HNW.out.drew).2 b (1 + A.waits[j].1) hbl).trans zb)
            have hne : b ≠ wr.heap.size := by omega
            have hinZ : (A.waits[j].1 : Int) < 3120 := by omega
            have HLT := hid hlt2
            go_wp2
            clear c0 c1 cw d0 d1 ck HF2 HF1 HF0 HZ
            have HF0 : (wr.alloc (.cells #[.int .i64 A.waits[j].1, .slice p A.waits[j].2.size cu] 97)).drew.cell? ⟨wr.heap.size, 0, none⟩ = some (.int .i64 A.waits[j].1) := (cell_made wr _ 97 0).trans rfl
            have HF1 : (wr.alloc (.cells #[.int .i64 A.waits[j].1, .slice p A.waits[j].2.size cu] 97)).drew.cell? ⟨wr.heap.size, 1, none⟩ = some (.slice p A.waits[j].2.size cu) := (cell_made wr _ 97 1).trans rfl
            have HF2 := (HNW.out.drew.cell b (1 + A.waits[j].1) hbl).trans cb
            have HZ := ((bcell HNW.out.drew).2 b (1 + A.waits[j].1) hbl).trans zb
            refine wp_region_held_drew (S := fun w' => w'.cell? ⟨wr.heap.size, 0, none⟩ = some (.int .i64 A.waits[j].1) ∧ w'.cell? ⟨wr.heap.size, 1, none⟩ = some (.slice p A.waits[j].2.size cu)) (by kernel_rfl) ⟨HF0, HF1⟩ (fun hS => ?_)
            refine wpAnyH_take (i := 0) (oi := _) (v := .pointer (some ⟨b, 0, none⟩)) rfl (by kernel_rfl) (by kernel_rfl) (by kernel_rfl) (fun _ _ _ h => h) (Or.inl ⟨by rfl, ?_⟩) hS ?_
            · intro w9 hSw; go_simp; done
            try simp only [Act.put, List.setIfInBounds_toArray, List.set_cons_zero, List.set_cons_succ]
            refine wpAnyH_take (i := 1) (oi := _) (v := .pointer (some ⟨wr.heap.size, 0, none⟩)) rfl (by kernel_rfl) (by kernel_rfl) (by kernel_rfl) (fun _ _ _ h => h) (Or.inl ⟨by rfl, ?_⟩) hS ?_
            · intro w9 hSw; go_simp; done
            try simp only [Act.put, List.setIfInBounds_toArray, List.set_cons_zero, List.set_cons_succ]
            refine wpAnyH_take (i := 2) (oi := _) (v := .int .i64 A.waits[j].1) rfl (by kernel_rfl) (by kernel_rfl) (by kernel_rfl) (fun _ _ _ h => h) (Or.inl ⟨by rfl, ?_⟩) hS ?_
            · intro w9 hSw; obtain ⟨hs0, hs1⟩ := hSw; go_simp; done
            try simp only [Act.put, List.setIfInBounds_toArray, List.set_cons_zero, List.set_cons_succ]
            refine wpAnyH_take (i := 3) (oi := _) (v := .pointer (some ⟨b, 0, none⟩)) rfl (by kernel_rfl) (by kernel_rfl) (by kernel_rfl) (fun _ _ _ h => h) (Or.inl ⟨by rfl, ?_⟩) hS ?_
            · intro w9 hSw; go_simp; done
            try simp only [Act.put, List.setIfInBounds_toArray, List.set_cons_zero, List.set_cons_succ]
            refine wpAnyH_take (i := 4) (oi := _) (v := .pointer (some ⟨wr.heap.size, 0, none⟩)) rfl (by kernel_rfl) (by kernel_rfl) (by kernel_rfl) (fun _ _ _ h => h) (Or.inl ⟨by rfl, ?_⟩) hS ?_
            · intro w9 hSw; go_simp; done
            try simp only [Act.put, List.setIfInBounds_toArray, List.set_cons_zero, List.set_cons_succ]
            refine wpAnyH_take (i := 5) (oi := _) (v := .int .i64 A.waits[j].1) rfl (by kernel_rfl) (by kernel_rfl) (by kernel_rfl) (fun _ _ _ h => h) (Or.inl ⟨by rfl, ?_⟩) hS ?_
            · intro w9 hSw; obtain ⟨hs0, hs1⟩ := hSw; go_simp; done
            try simp only [Act.put, List.setIfInBounds_toArray, List.set_cons_zero, List.set_cons_succ]
            refine wpAnyH_take (i := 6) (oi := _) (v := .pointer (some ⟨b, 0, none⟩)) rfl (by kernel_rfl) (by kernel_rfl) (by kernel_rfl) (fun _ _ _ h => h) (Or.inl ⟨by rfl, ?_⟩) hS ?_
            · intro w9 hSw; go_simp; done
            try simp only [Act.put, List.setIfInBounds_toArray, List.set_cons_zero, List.set_cons_succ]
            refine wpAnyH_take (i := 7) (oi := _) (v := .pointer (some ⟨b, 1, none⟩)) rfl (by kernel_rfl) (by kernel_rfl) (by kernel_rfl) (fun _ _ _ h => h) (Or.inl ⟨by rfl, ?_⟩) hS ?_
            · intro w9 hSw; go_simp; done
            try simp only [Act.put, List.setIfInBounds_toArray, List.set_cons_zero, List.set_cons_succ]
            refine wpAnyH_take (i := 8) (oi := _) (v := .pointer (some ⟨b, 1 + A.waits[j].1, none⟩)) rfl (by kernel_rfl) (by kernel_rfl) (by kernel_rfl) (fun _ _ _ h => h) (Or.inl ⟨by rfl, ?_⟩) hS ?_
            · intro w9 hSw; go_simp; (try simp [hin]); (try (intro h9; omega)); done
            try simp only [Act.put, List.setIfInBounds_toArray, List.set_cons_zero, List.set_cons_succ]
            refine wpAnyH_take (i := 10) (oi := _) (v := .pointer (some ⟨wr.heap.size, 1, none⟩)) rfl (by kernel_rfl) (by kernel_rfl) (by kernel_rfl) (fun _ _ _ h => h) (Or.inl ⟨by rfl, ?_⟩) hS ?_
            · intro w9 hSw; go_simp; done
            try simp only [Act.put, List.setIfInBounds_toArray, List.set_cons_zero, List.set_cons_succ]
            refine wpAnyH_take (i := 11) (oi := _) (v := .slice p A.waits[j].2.size cu) rfl (by kernel_rfl) (by kernel_rfl) (by kernel_rfl) (fun _ _ _ h => h) (Or.inl ⟨by rfl, ?_⟩) hS ?_
            · intro w9 hSw; obtain ⟨hs0, hs1⟩ := hSw; go_simp; done
            try simp only [Act.put, List.setIfInBounds_toArray, List.set_cons_zero, List.set_cons_succ]
            refine wpAnyH_take (i := 12) (oi := _) (v := .int .i64 kk) rfl (by kernel_rfl) (by kernel_rfl) (by kernel_rfl) (fun _ _ _ h => h) (Or.inl ⟨by rfl, ?_⟩) hS ?_
            · intro w9 hSw; go_simp; done
            try simp only [Act.put, List.setIfInBounds_toArray, List.set_cons_zero, List.set_cons_succ]
            refine wpAnyH_take (i := 13) (oi := _) (v := .int .i64 (max kk 0)) rfl (by kernel_rfl) (by kernel_rfl) (by kernel_rfl) (fun _ _ _ h => h) (Or.inl ⟨by rfl, ?_⟩) hS ?_
            · intro w9 hSw; go_simp; (try (split <;> omega)); done
            try simp only [Act.put, List.setIfInBounds_toArray, List.set_cons_zero, List.set_cons_succ]
            refine wpAnyH_take (i := 15) (oi := _) (v := .pointer (some ⟨b, 0, none⟩)) rfl (by kernel_rfl) (by kernel_rfl) (by kernel_rfl) (fun _ _ _ h => h) (Or.inl ⟨by rfl, ?_⟩) hS ?_
            · intro w9 hSw; go_simp; done
            try simp only [Act.put, List.setIfInBounds_toArray, List.set_cons_zero, List.set_cons_succ]
            refine wpAnyH_take (i := 16) (oi := _) (v := .pointer (some ⟨b, 1, none⟩)) rfl (by kernel_rfl) (by kernel_rfl) (by kernel_rfl) (fun _ _ _ h => h) (Or.inl ⟨by rfl, ?_⟩) hS ?_
            · intro w9 hSw; go_simp; done
            try simp only [Act.put, List.setIfInBounds_toArray, List.set_cons_zero, List.set_cons_succ]
            refine wpAnyH_ready (rs := [9]) (by kernel_rfl) (by simp) ?_
            refine AllReadyH.cons (o := _) rfl (fun K hK => ?_) AllReadyH.nil
            go_simp
            refine hK.out _ _ hS (fun hS => ?_)
            clear hK K
            refine wpAnyH_ready (rs := [14]) (by kernel_rfl) (by simp) ?_
            refine AllReadyH.cons (o := _) rfl (fun K hK => ?_) AllReadyH.nil
            go_simp
            refine (torn_at kk _ rfl _ _ _ _ t HTT.out _ (HOLD.out.1.later HNW.out.drew) (HU.out.new HNW.out.drew) HS1.out HS2.out).mono ?_
            rintro e w5 ⟨p5, k5, rfl, hc5, hn5⟩
            have z5 := ((bcell hn5).2 b (1 + A.waits[j].1) hbA).trans HZ
            have f0 := (hn5.cell wr.heap.size 0 hbB).trans HF0
            have f1 := (hn5.cell wr.heap.size 1 hbB).trans HF1
            have f2 := (hn5.cell b (1 + A.waits[j].1) hbA).trans HF2
            go_simp
            refine hK.out _ _ ⟨f0, f1⟩ (fun hS => ?_)
            clear hK K
            refine wpAnyH_take (i := 17) (oi := _) (v := .pointer (some ⟨b, 1 + A.waits[j].1, none⟩)) rfl (by kernel_rfl) (by kernel_rfl) (by kernel_rfl) (fun _ _ _ h => h) (Or.inl ⟨by rfl, ?_⟩) hS ?_
            · intro w9 hSw; go_simp; (try simp [hin]); (try (intro h9; omega)); done
            try simp only [Act.put, List.setIfInBounds_toArray, List.set_cons_zero, List.set_cons_succ]
            refine wpAnyH_ready (rs := [18]) (by kernel_rfl) (by simp) ?_
            refine AllReadyH.cons (o := _) rfl (fun K hK => ?_) AllReadyH.nil
            go_simp
            refine hK.out _ _ ⟨(other_cell w5 _ _ _ hne).trans f0, (other_cell w5 _ _ _ hne).trans f1⟩ (fun hS => ?_)
            clear hK K
            refine wpAnyH_done (by kernel_rfl) ?_ _
            go_wp2
            go_roundw
            case rel =>
              refine ⟨j + 1, by omega, by go_num, hid ?_⟩
              rw [crashTo_last HLT.out HK.out HLA.out, ← HTT.out]
              exact Laying.next HL.out (HNW.out.drew.trans hn5) HIN2.out hc5
            case measure => simp [intOf]; omega
          · have hl1 : ¬ (j : Int) = (A.waits.length : Int) - 1 := by omega
            have hbool : ((j : Int) == (A.waits.length : Int) - 1) = false := by simpa using hl1
            have HLA := hid hlast
            have HNX := hid ((Laying.next HL.out (New.refl wr) HIN2.out HU.out).new ((New.refl _).alloc #[.int .i64 A.waits[j].1, .slice p A.waits[j].2.size cu] 97).drew)
            clear hl1 hlast
            go_wp2
            go_region
            all_goals
              go_wp2
              go_roundw
              case rel => exact ⟨j + 1, by omega, by go_num, hid (by rw [crashTo_keep hlt2 HK.out HLA.out]; exact HNX.out)⟩
              case measure => simp [intOf]; omega
      · have HK := hid (show keep.getD j false = false by simp [show keep.length ≤ j by omega])
        clear g3
        go_wp2
        go_roundw
        case rel => exact ⟨j + 1, by omega, by go_num, hid (by rw [crashTo_skip HK.out]; exact HL.out.new ((New.refl wr).alloc _ _))⟩
        case measure => simp [intOf]; omega
    · have : j = A.waits.length := by omega
      subst this
      obtain ⟨⟨f2, hr2, hi2, e2⟩, ht2⟩ := hL.out
      have c2 := hr2.cell 3121 (by omega)
      rw [e2] at c2
      have z2 := hr2.frozen 3121
      have hd2 := hi2.drop hr2
      have ht3 := Turn.setCell (S := (· = b)) (p := ⟨b, 3121, none⟩) ht2 rfl (.slice none 0 0)
      have hat : DiskAt (wr.setCell ⟨b, 3121, none⟩ (.slice none 0 0)) b none { A with waits := [], safe := crashTo A.waits keep (max kk 0).toNat A.safe A.waits.length } := ⟨_, hr2.set 3121 _, hd2⟩
      clear hr2 hi2 ht2 e2 hL HS hd2
      go_wp2_with fail
      refine (fall_any b none _ _ hat HB.out).mono ?_
      rintro e w5 ⟨rfl, hd5, ht5⟩
      go_wp2
      go_ret
      exact ⟨rfl, none, hd5, fun k h => (by cases h), (ht3.trans ht5).mono (fun k _ h => .inl h)⟩

end Go.Proofs.Ytbclgklpcbajfaa
