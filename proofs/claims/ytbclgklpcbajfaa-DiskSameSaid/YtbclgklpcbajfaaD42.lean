/- DiskActs' walk. -/
import Derived.Test.YtbclgklpcbajfaaD41
import Derived.Test.YtbclgklpcbajfaaD12
namespace Go.Proofs.Ytbclgklpcbajfaa
open Go.RowKit
set_option linter.unusedSimpArgs false
set_option linter.unusedVariables false

def refCells : Array Value := (List.replicate 3120 (Value.string ByteArray.empty) ++ [Value.slice none 0 0, .int .i64 0, .bool false, .int .i64 0, .int .i64 0]).toArray
theorem refCells_eq : Try.zeroCells56 = refCells := by kernel_rfl
theorem refCells_size : refCells.size = 3125 := by
  unfold refCells
  rw [List.size_toArray, List.length_append, List.length_replicate]
  rfl
def refF (i : Nat) : Value := refCells[i]?.getD undef
theorem refF_safe (i : Nat) (h : i < 3120) : refF i = .string ByteArray.empty := by
  unfold refF refCells
  rw [List.getElem?_toArray, List.getElem?_append_left (by rw [List.length_replicate]; omega), List.getElem?_replicate, if_pos h]
  rfl
theorem refF_tail (k : Nat) : refF (3120 + k) = ([.slice none 0 0, .int .i64 0, .bool false, .int .i64 0, .int .i64 0] : List Value)[k]?.getD undef := by
  unfold refF refCells
  rw [List.getElem?_toArray, List.getElem?_append_right (by rw [List.length_replicate]; omega), List.length_replicate, show 3120 + k - 3120 = k by omega]
theorem refNewAt (w : World) : RefAt (w.alloc (.cells Try.zeroCells56 56)) w.heap.size none newA := by
  rw [refCells_eq]
  refine ⟨refF, ⟨refCells, World.alloc_heap_new w _, refCells_size, fun i hi => ?_⟩, ?_⟩
  · unfold refF
    rw [Array.getElem?_eq_getElem (by rw [refCells_size]; exact hi)]
    rfl
  · constructor
    case safe => exact fun i hi => refF_safe i hi
    case own => rw [show refF 3120 = .slice none 0 0 from refF_tail 0]; exact ⟨rfl, .inl ⟨rfl, rfl⟩⟩
    case blk => rw [show refF 3120 = .slice none 0 0 from refF_tail 0]; rfl
    case armed => exact refF_tail 1
    case down => exact refF_tail 2
    case acts => exact refF_tail 3
    case falls => exact refF_tail 4
    case inside => intro p hp; cases hp
    case armed0 => exact zero_armed
    case acts0 => exact Int.le_refl _
    case falls0 => exact Int.le_refl _
/-- A new disk, and one of the specification's. -/
theorem Pair.made (w a : World) (h : New w a) : Pair w ((a.alloc (.cells newCells 69)).alloc (.cells Try.zeroCells56 56)) a.heap.size none newA (a.heap.size + 1) none newA := by
  have hn : New (a.alloc (.cells newCells 69)) ((a.alloc (.cells newCells 69)).alloc (.cells Try.zeroCells56 56)) := (New.refl _).alloc _ _
  have hr := refNewAt (a.alloc (.cells newCells 69))
  rw [World.size_alloc] at hr
  have hs := h.size
  refine ⟨(h.alloc _ _).trans hn, (newAt a).new hn, hr, fun k hk => ?_⟩
  rcases hk with (rfl | hk) | (rfl | hk)
  · exact hs
  · cases hk
  · omega
  · cases hk

set_option maxHeartbeats 8000000 in
set_option maxRecDepth 100000 in
theorem acts_law (v : Value) (l : List Deed) (w : World) (h : Deeds w v l) (hN : ∀ a ∈ l, a.n ≤ 2 ^ 63 - 1) :
    Calls Try.prog 8 #[v] w fun e w' => e = .returned (.bool true) ∧ New w w' := by
  have H := hid h
  have HNN := hid hN
  clear hN
  obtain ⟨gp, gc, rfl, g1, g2, _⟩ := h
  unfold maxLen at g2
  cases hf : fewB l with
  | false =>
    go_enter Try.func8, Try.ntmps8
    go_wp2_with fail
    refine (few_any _ l _ H.out).mono ?_
    rintro e w' ⟨rfl, rfl⟩
    rw [hf]
    go_wp2_with fail
    refine (awake_any _).mono ?_
    rintro e w' ⟨rfl, hn⟩
    go_wp2
    go_ret
    exact ⟨rfl, hn⟩
  | true =>
    have hl : l.length ≤ 40 := by simp [fewB] at hf; omega
    go_enter Try.func8, Try.ntmps8
    go_wp2_with fail
    refine (few_any _ l _ H.out).mono ?_
    rintro e w' ⟨rfl, rfl⟩
    rw [hf]
    go_wp2_with fail
    refine (new_any _).mono ?_
    rintro e w1 ⟨rfl, hw1⟩
    go_wp2_with fail
    subst hw1
    have S1 := hid (And.intro (Pair.made w w (New.refl w)) (And.intro (Like.refl newA) lim_new))
    generalize hW : (w.alloc (Obj.cells newCells 69)).alloc (Obj.cells Try.zeroCells56 56) = W1 at *
    clear hW
    go_loopw [3, 4, 5, 6] (fun d r i _ wr => ∃ (j b : Nat) (ow : Option Nat) (A : ADisk) (c : Nat) (oc : Option Nat) (R : ADisk), j ≤ l.length ∧ i = .int .i64 j ∧ d = .pointer (some ⟨b, 0, none⟩) ∧ r = .pointer (some ⟨c, 0, none⟩) ∧ Hid (Pair w wr b ow A c oc R ∧ Like A R ∧ Lim A j)) (fun _ _ i _ _ => l.length - (intOf i).toNat)
    case atStart => exact ⟨0, _, _, _, _, _, _, Nat.zero_le _, rfl, rfl, rfl, S1⟩
    case round =>
      clear S1
      obtain ⟨j, b, ow, A, c, oc, R, hj, rfl, rfl, rfl, hT⟩ := hrel
      by_cases hlt : j < l.length
      · obtain ⟨b0, o0, rfl, hb, sp, sc, kp, kc, hact⟩ := H.out.at hlt
        obtain ⟨c0, c1, c2, c3, c4, hs, hk, hso, hko, ⟨s1, s2⟩, k1, k2⟩ := hact wr hT.out.1.new
        have hbw : b0 < wr.heap.size := Nat.lt_of_lt_of_le hb hT.out.1.new.size
        have hxn : (l[j]).n ≤ 2 ^ 63 - 1 := HNN.out _ (List.getElem_mem hlt)
        clear hact
        generalize hx : l[j] = x at *
        clear hx
        have HCALL := hid (does_any w wr b c ow oc A R j x sp kp sc kc hT.out.1 hT.out.2.1 hT.out.2.2 (by omega) hs hk hso hko ⟨s1, s2⟩ ⟨k1, k2⟩ hxn)
        clear hs hk hso hko hxn
        go_wp2_with fail
        refine HCALL.out.mono ?_
        rintro e w2 ⟨b2, ow2, A2, c2', oc2, R2, rfl, P2, L2, M2, S2⟩
        have c1' : w2.cell? ⟨b0, o0 + j * 5 + 1, none⟩ = some (.int .i64 x.block) := by
          rw [World.cell?_of_block (w := wr) (a := ⟨b0, o0 + j * 5 + 1, none⟩) (S2.turn.block b0 hbw (fun hk => by have := hT.out.1.old b0 hk; omega))]
          exact c1
        have HP2 := hid P2
        have HR2 := hid (And.intro L2 M2)
        have HS2 := hid (sameAct_any w w2 b2 c2' ow2 oc2 A2 R2 (j + 1) x.block P2 L2 M2 (by omega))
        have hb2 : b0 < w2.heap.size := Nat.lt_of_lt_of_le hbw S2.turn.size
        clear P2 L2 M2 S2 HCALL hT
        go_wp2_with fail
        refine HS2.out.mono ?_
        rintro e w3 ⟨rfl, hn3⟩
        have HN3 := hid hn3
        clear hn3
        go_wp2
        go_roundw
        case rel => exact ⟨j + 1, b2, ow2, A2, c2', oc2, R2, by omega, by go_num, rfl, rfl, hid ⟨HP2.out.newer HN3.out, HR2.out.1, HR2.out.2⟩⟩
        case measure => simp [intOf]; omega
      · obtain rfl : j = l.length := by omega
        obtain ⟨wo, rfl⟩ : ∃ wo : World, wo = wr := ⟨_, rfl⟩
        go_wp2
        go_loopw [7] (fun i wr => ∃ k : Nat, k ≤ l.length ∧ i = .int .i64 k ∧ New wo wr) (fun i _ => l.length - (intOf i).toNat)
        case atStart => exact ⟨0, Nat.zero_le _, rfl, New.refl _⟩
        case round =>
          obtain ⟨k, hk, rfl, hn⟩ := hrel
          by_cases hlt : k < l.length
          · obtain ⟨b0, o0, rfl, hb, sp, sc, kp, kc, hact⟩ := H.out.at hlt
            obtain ⟨_, c1, _, _, _, _, _, _, _, _, _⟩ := hact wr (hT.out.1.new.trans hn)
            clear hact
            generalize hx : l[k] = x at *
            clear hx
            have hbw : b0 < wr.heap.size := Nat.lt_of_lt_of_le hb (hT.out.1.new.trans hn).size
            have HS2 := hid (sameAct_any w wr b c ow oc A R l.length x.block (hT.out.1.newer hn) hT.out.2.1 hT.out.2.2 (by omega))
            go_wp2_with fail
            refine HS2.out.mono ?_
            rintro e w3 ⟨rfl, hn3⟩
            go_wp2
            go_roundw
            case rel => exact ⟨k + 1, by omega, by go_num, hn.trans hn3⟩
            case measure => simp [intOf]; omega
          · obtain rfl : k = l.length := by omega
            go_wp2_with fail
            refine (awake_any _).mono ?_
            rintro e w' ⟨rfl, hn4⟩
            go_wp2
            go_ret
            exact ⟨rfl, (hT.out.1.new.trans hn).trans hn4⟩

end Go.Proofs.Ytbclgklpcbajfaa
