/- newWorld, page, unit: what they return, and what they leave. -/
import Derived.Test.YtmchbciofdokfaaW2
import Derived.RegionTactic
import Derived.Lib.SliceRun
namespace Go.Proofs.Ytmchbciofdokfaa
open Go.RowKit
open Go.ChangeMaps (setBlock)
set_option linter.unusedSimpArgs false
set_option linter.unusedVariables false

theorem zeroPage_vals : byteVals zeroPage = List.replicate 128 (.int .u8 0) := by
  simp [zeroPage, byteVals, bytesOf, List.map_replicate]
theorem stampL_nil (n : Nat) : stampL [] n = 0 := rfl
def NewWorld (w0 w : World) (e : Ending) (w' : World) : Prop := ∃ wb S, e = .returned (.pointer (some ⟨wb, 0, none⟩)) ∧ WorldAt w0 w' wb S pw0
theorem alloc_block (w : World) (o : Obj) : (w.alloc o).heap[w.heap.size]? = some o := (MapKept.heap_alloc w o).1
theorem newWorld_any (w0 w : World) (h : New w0 w) : Calls Try.prog 61 #[] w (NewWorld w0 w) := by
  have hmm := @run_makeMap Try.prog
  have H := hid h
  have M1 := hid (imap_made w)
  have M2 := hid (imap_made (w.alloc (.map #[] 0)))
  have M3 := hid (imap_made ((w.alloc (.map #[] 0)).alloc (.map #[] 0)))
  have hs := h.size
  go_enter Try.func61, Try.ntmps61
  go_wp2
  go_ret
  generalize e1 : w.alloc (.map #[] 0) = w1 at *
  generalize e2 : w1.alloc (.map #[] 0) = w2 at *
  generalize e3 : w2.alloc (.map #[] 0) = w3 at *
  have s1 : w1.heap.size = w.heap.size + 1 := by rw [← e1]; simp
  have s2 : w2.heap.size = w.heap.size + 2 := by rw [← e2]; simp [s1]
  have s3 : w3.heap.size = w.heap.size + 3 := by rw [← e3]; simp [s2]
  have n1 : New w w1 := e1 ▸ Below.alloc (New.refl w) (Nat.le_refl _) _
  have n2 : New w1 w2 := e2 ▸ Below.alloc (New.refl w1) (Nat.le_refl _) _
  have n3 : New w2 w3 := e3 ▸ Below.alloc (New.refl w2) (Nat.le_refl _) _
  have n4 := Below.alloc (New.refl w3) (Nat.le_refl _) (.cells #[.slice none 0 0, .map (some w.heap.size), .map (some (w.heap.size + 1)), .map (some (w.heap.size + 1 + 1)), .slice none 0 0] 64)
  have b4 := alloc_block w3 (.cells #[.slice none 0 0, .map (some w.heap.size), .map (some (w.heap.size + 1)), .map (some (w.heap.size + 1 + 1)), .slice none 0 0] 64)
  have m1 := M1.out
  have m2 := M2.out
  have m3 := M3.out
  rw [s1] at m2
  rw [s2] at m3
  rw [s3] at b4
  generalize w3.alloc (.cells #[.slice none 0 0, .map (some w.heap.size), .map (some (w.heap.size + 1)), .map (some (w.heap.size + 1 + 1)), .slice none 0 0] 64) = w4 at *
  have k1 : IMap w4 w.heap.size [] := m1.keep (Below.block ((n2.trans n3).trans n4) _ (by omega))
  have k2 : IMap w4 (w.heap.size + 1) [] := m2.keep (Below.block (n3.trans n4) _ (by omega))
  have k3 : IMap w4 (w.heap.size + 2) [] := m3.keep (Below.block n4 _ (by omega))
  refine ⟨w.heap.size + 3, ⟨w.heap.size, w.heap.size + 1, w.heap.size + 2, .slice none 0 0, .slice none 0 0, [], [], []⟩, rfl, ⟨H.out.trans (((n1.trans n2).trans n3).trans n4), b4, ⟨[], World.ownsRow_nil _ _ _ _, RecCells.nil _⟩, World.ownsRow_nil _ _ _ _, ⟨k1, fun p hp => (by cases hp), fun _ _ => rfl, List.nodup_nil⟩, ⟨k2, fun _ => rfl⟩, ⟨k3, fun p hp => (by cases hp), fun _ _ => rfl, List.nodup_nil, fun p hp => (by cases hp)⟩, fun k hk => (by cases hk), ⟨by show w.heap.size ≠ w.heap.size + 1; omega, by show w.heap.size ≠ w.heap.size + 2; omega, by show w.heap.size + 1 ≠ w.heap.size + 2; omega⟩, ⟨by omega, hs, by show _ ≤ w.heap.size + 1; omega, by show _ ≤ w.heap.size + 2; omega⟩, fun k hk => ?_, fun p hp => (by cases hp), fun p hp => (by cases hp)⟩⟩
  rcases hk with hk | hk | ⟨x, hx, _⟩
  · cases hk
  · cases hk
  · cases hx

/-! ## page -/
/-- The world with a page laid. -/
theorem WorldAt.pageIn {w0 w wa : World} {wb : Nat} {S : WSh} {W : PW} (h : WorldAt w0 w wb S W) (hn : New w wa) {n : Nat} (hno : ∀ p ∈ S.lp, p.1 ≠ (n : Int)) {b : Nat} (hb : wa.heap[b]? = some (.cells (Array.replicate 128 (.int .u8 0)) 5 (0, 0))) (hw : w.heap.size ≤ b) {o : Obj} (hm : IMap (setBlock wa S.pg o) S.pg (putL (S.lp.map fun p => (p.1, .slice (some ⟨p.2, 0, none⟩) 128 128)) (n : Int) (.slice (some ⟨b, 0, none⟩) 128 128))) :
    WorldAt w0 (setBlock wa S.pg o) wb { S with lp := S.lp ++ [((n : Int), b)] } W := by
  have ha := h.newer hn
  have ht := set_turn wa S.pg o
  have hpg := imap_not ha.pages.map
  have hlk : look (S.lp.map fun p => (p.1, Value.slice (some ⟨p.2, 0, none⟩) 128 128)) (n : Int) = none := by
    rw [look_none]
    intro p hp
    obtain ⟨q, hq, rfl⟩ := List.mem_map.1 hp
    exact hno q hq
  have hput : putL (S.lp.map fun p => (p.1, Value.slice (some ⟨p.2, 0, none⟩) 128 128)) (n : Int) (.slice (some ⟨b, 0, none⟩) 128 128) = (S.lp ++ [((n : Int), b)]).map fun p => (p.1, .slice (some ⟨p.2, 0, none⟩) 128 128) := by
    unfold putL
    rw [any_none hlk, if_neg (by decide), List.map_append]
    rfl
  rw [hput] at hm
  obtain ⟨xs, hr1, hr2⟩ := ha.recs
  have old : ∀ p ∈ S.lp, p.2 < w.heap.size := fun p hp => (Array.getElem?_eq_some_iff.1 (h.pages.page p hp).2).1
  have hne : ∀ k, (k = S.pg) → ∀ c t fr, wa.heap[k]? ≠ some (.cells c t fr) := fun k hk => hk ▸ hpg
  refine { ha with new := New.turn ha.new ht (fun k hk e => ?_), base := block_turn ha.base ht (fun e => hne _ e _ _ _ ha.base), recs := ⟨xs, own_turn hr1 ht (fun k hk e => ?_), hr2⟩, wins := own_turn ha.wins ht (fun k hk e => ?_), pages := ⟨hm, fun p hp => ?_, fun m hm => ?_, ?_⟩, stamps := ha.stamps.off ht (fun k hk => by rw [hk]; exact ha.maps.1), units := ha.units.off ht (fun k hk => ⟨fun c t fr e => absurd e (hne k hk c t fr), by rw [hk]; exact ha.maps.2.1, fun hl => ?_⟩), fp := fun p hp => ?_ }
  · have := ha.fb.2.1
    omega
  · obtain ⟨c, hc, _⟩ := own_cells hr1 hk
    exact hne _ e _ _ _ hc
  · obtain ⟨c, hc, _⟩ := own_cells ha.wins hk
    exact hne _ e _ _ _ hc
  · rw [List.mem_append, List.mem_singleton] at hp
    rcases hp with hp | rfl
    · exact ⟨(ha.pages.page p hp).1, block_turn (ha.pages.page p hp).2 ht (fun e => hne _ e _ _ _ (ha.pages.page p hp).2)⟩
    · refine ⟨Int.natCast_nonneg _, block_turn ?_ ht (fun e => hne _ e _ _ _ hb)⟩
      show wa.heap[b]? = some (.cells (byteVals (W.page (n : Int).toNat)).toArray 5 (0, 0))
      rw [Int.toNat_natCast, h.pages.none n hno, zeroPage_vals, hb]
      have e : (List.replicate 128 (Value.int .u8 0)).toArray = Array.replicate 128 (.int .u8 0) := by kernel_rfl
      rw [e]
  · exact h.pages.none m (fun p hp => hm p (by rw [List.mem_append]; exact .inl hp))
  · rw [List.map_append, List.nodup_append]
    refine ⟨h.pages.nodup, by simp, fun a ha' c hc => ?_⟩
    obtain ⟨p, hp, rfl⟩ := List.mem_map.1 ha'
    have h1 : c = b := by simpa using hc
    have := old p hp
    omega
  · obtain ⟨x, hx, hk2⟩ := hl
    obtain ⟨c, hc, _⟩ := own_cells (ha.units.unit x hx).2 hk2
    exact hne _ hk _ _ _ hc
  · rw [List.mem_append, List.mem_singleton] at hp
    rcases hp with hp | rfl
    · exact ha.fp p hp
    · have := h.new.size
      show w0.heap.size ≤ b
      omega
/-- What page returns, and leaves. -/
def PageIs (w0 : World) (wb : Nat) (S : WSh) (W : PW) (n : Nat) (w : World) (e : Ending) (w' : World) : Prop :=
  ∃ b lp, e = .returned (.slice (some ⟨b, 0, none⟩) 128 128) ∧ WorldAt w0 w' wb { S with lp := lp } W ∧ ((n : Int), b) ∈ lp ∧ Turn (· = S.pg) w w'
theorem make_zero : ∀ w, (Instr.makeSlice 33 (.int .i64 128) (.int .i64 128)).run Try.prog w = .ok (.slice (some ⟨w.heap.size, 0, none⟩) 128 128) (w.alloc (.cells (Array.replicate 128 (.int .u8 0)) 5)) := fun _ => by kernel_rfl
set_option maxRecDepth 100000 in
set_option maxHeartbeats 1000000 in
theorem page_any (w0 : World) (wb : Nat) (S : WSh) (W : PW) (n : Nat) (w : World) (h : WorldAt w0 w wb S W) : Calls Try.prog 45 #[.pointer (some ⟨wb, 0, none⟩), .int .i64 (n : Int)] w (PageIs w0 wb S W n w) := by
  obtain ⟨c0, c1, c2, c3, c4⟩ := h.cells
  have H := hid h
  rcases look_page S.lp (n : Int) with ⟨hl, hno⟩ | ⟨p, hp, hpn, hl⟩
  · have lk := run_look (t := 60) (k := 3) (e := 33) Try.underlying60 Try.underlying3 (Try.zeroValue33 w) h.pages.map (n : Int)
    rw [hl] at lk
    have lk : (Instr.lookup 60 (.map (some S.pg)) (.int .i64 (n : Int)) false).run Try.prog w = .ok (.slice none 0 0) w := lk
    have hmk := make_zero
    have hq := fun (w : World) => Lib.run_eql_slice_nil (P := Try.prog) w 33 5 none 0 0 0 0 Try.underlying33
    have nd : New w w.drew := (New.refl w).drew
    have na : New w ((w.alloc (.cells (Array.replicate 128 (.int .u8 0)) 5)).drew) := (Below.alloc (New.refl w) (Nat.le_refl _) _).drew
    have HB : Hid (((w.alloc (.cells (Array.replicate 128 (.int .u8 0)) 5)).drew).heap[w.heap.size]? = some (.cells (Array.replicate 128 (.int .u8 0)) 5 (0, 0))) := hid (alloc_block w (.cells (Array.replicate 128 (.int .u8 0)) 5))
    obtain ⟨d0, d1, d2, d3, d4⟩ := (h.newer nd).cells
    obtain ⟨e0, e1, e2, e3, e4⟩ := (h.newer na).cells
    obtain ⟨o, hput, hm⟩ := run_put (P := Try.prog) (t := 60) (k := 3) (e := 33) Try.underlying60 Try.underlying3 (h.newer na).pages.map (n : Int) (.slice (some ⟨w.heap.size, 0, none⟩) 128 128)
    have HX := hid (h.pageIn na hno HB.out (Nat.le_of_eq rfl) hm)
    obtain ⟨f0, f1, f2, f3, f4⟩ := HX.out.cells
    have hl2 : look ((S.lp ++ [((n : Int), w.heap.size)]).map fun p => (p.1, Value.slice (some ⟨p.2, 0, none⟩) 128 128)) (n : Int) = some (.slice (some ⟨w.heap.size, 0, none⟩) 128 128) := by
      refine look_some HX.out.pages.map.nodup ?_
      rw [List.map_append]
      exact List.mem_append.2 (.inr (by simp))
    have lk2 := run_look (t := 60) (k := 3) (e := 33) Try.underlying60 Try.underlying3 (Try.zeroValue33 _) HX.out.pages.map (n : Int)
    rw [hl2] at lk2
    have lk2 : (Instr.lookup 60 (.map (some S.pg)) (.int .i64 (n : Int)) false).run Try.prog (setBlock ((w.alloc (.cells (Array.replicate 128 (.int .u8 0)) 5)).drew) S.pg o) = .ok (.slice (some ⟨w.heap.size, 0, none⟩) 128 128) (setBlock ((w.alloc (.cells (Array.replicate 128 (.int .u8 0)) 5)).drew) S.pg o) := lk2
    have HT : Hid (Turn (· = S.pg) w (setBlock ((w.alloc (.cells (Array.replicate 128 (.int .u8 0)) 5)).drew) S.pg o)) := hid ((Turn.of_new na).trans (set_turn _ _ _))
    clear h hm hl hl2 hno nd na
    go_enter Try.func45, Try.ntmps45
    go_wp2_with fail
    go_region_with (fail)
    all_goals
      go_wp2
      go_ret
      exact ⟨w.heap.size, _, rfl, HX.out, by rw [List.mem_append]; exact .inr (by simp), HT.out⟩
  · have lk := run_look (t := 60) (k := 3) (e := 33) Try.underlying60 Try.underlying3 (Try.zeroValue33 w) h.pages.map (n : Int)
    rw [hl] at lk
    have lk : (Instr.lookup 60 (.map (some S.pg)) (.int .i64 (n : Int)) false).run Try.prog w = .ok (.slice (some ⟨p.2, 0, none⟩) 128 128) w := lk
    have hq := fun (w : World) => Lib.run_eql_slice_nil (P := Try.prog) w 33 5 (some ⟨p.2, 0, none⟩) 128 128 0 0 Try.underlying33
    have HP := hid hp
    have HPN := hid hpn
    clear h hl hp hpn
    go_enter Try.func45, Try.ntmps45
    go_wp2
    go_ret
    exact ⟨p.2, S.lp, rfl, H.out, by rw [← HPN.out]; exact HP.out, Turn.refl _ _⟩
end Go.Proofs.Ytmchbciofdokfaa
