/- Arguments opened: a slice of bytes, a slice of units, a record. A script that came in; few. The walk of PoolPages. -/
import Derived.Test.YtdccbceaajnajaaGreatProg
import Derived.Test.YtdccbceaajnajaaGreatA9
import Derived.ProofKit
import Derived.Deep.Slices
import Derived.Test.YtdccbceaajnajaaGreatS18
import Derived.Deep.Grids
import Derived.Test.YtdccbceaajnajaaGreatS27
namespace Go.Proofs.YtdccbceaajnajaaGreat
open Go.RowKit Go.ChangeShapes Go.WideShapes
set_option linter.unusedVariables false

theorem cells5 : Tryz.prog.cellsOf 5 = 1 := by kernel_rfl
theorem cells90 : Tryz.prog.cellsOf 133 = 3 := by kernel_rfl
theorem cells25 : Tryz.prog.cellsOf 70 = 10 := by kernel_rfl
theorem cells3 : Tryz.prog.cellsOf 3 = 1 := by kernel_rfl
theorem cells9 : Tryz.prog.cellsOf 9 = 1 := by kernel_rfl
theorem cells22 : Tryz.prog.cellsOf 29 = 1 := by kernel_rfl
theorem cells23 : Tryz.prog.cellsOf 68 = 1 := by kernel_rfl

section
variable {H : Type} {enc : TypeId × Value → H} {w : World} {base : Nat} {spare : Nat → Bool} {held : Bool}

theorem addr_plain {a : Addr} {v : Value} (h : w.cell? a = some v) : a = ⟨a.block, a.off, none⟩ ∧ a.block < w.heap.size := by
  refine ⟨?_, World.block_lt_of_cell? w a h⟩
  obtain ⟨b, o, s⟩ := a
  cases s with
  | none => rfl
  | some s =>
    simp only [World.cell?] at h
    split at h <;> simp at h
theorem plain_add (b o j : Nat) : (⟨b, o, none⟩ : Addr).add j = ⟨b, o + j, none⟩ := by unfold Addr.add; split <;> simp_all

theorem nums_str {zs : List Int} (h : ∀ n ∈ zs, (Lit.int .u8 n).wf = true) : byteVals (strOfNums zs) = zs.map (Value.int .u8) := by
  simp only [byteVals, strOfNums, List.map_map]
  apply List.map_congr_left
  intro n hn
  have := h n hn
  simp [Lit.wf, IntKind.min, IntKind.max, IntKind.signed, IntKind.bits] at this
  simp only [Function.comp_apply, UInt8.toNat_ofNat']
  congr 1
  omega

/-- A slice of bytes that came in. -/
theorem bytes_arg {fuel : Nat} {cs : List Value} {x : DataW H × List MemPlace} (h : DataW.trod enc Tryz.prog w base spare held fuel 29 cs = some x) : ∃ v s, cs = [v] ∧ Bytes w v s := by
  rcases open_ints Tryz.underlying29 Tryz.underlying5 cells5 h with ⟨rfl, _⟩ | ⟨a, len, cap, zs, rfl, _, hl, hm, hz, _, hcell, hwz⟩
  · exact ⟨_, ByteArray.empty, rfl, none, 0, rfl, Nat.le_refl _, by decide, fun h => absurd h (by decide)⟩
  · have hlen : len ≤ zs.length := by rw [hz]; split <;> omega
    have hs : (strOfNums (zs.take len)).size = len := by rw [strOfNums_size, List.length_take]; omega
    refine ⟨_, strOfNums (zs.take len), rfl, some a, cap, by rw [hs], by rw [hs]; exact hl, hm, fun h0 => ?_⟩
    rw [hs] at h0
    obtain ⟨e, hb⟩ := addr_plain (hcell 0 (by omega) : w.cell? (a.add 0) = _)
    have e0 : a.add 0 = a := by simp [Addr.add]
    rw [e0] at e hb
    refine ⟨a.block, a.off, by rw [← e], hb, fun i hi => ?_⟩
    rw [byteVals_length, hs] at hi
    have hc := hcell i (by omega)
    rw [e, plain_add] at hc
    rw [hc, nums_str (fun n hn => hwz n (List.mem_of_mem_take hn))]
    simp [List.getD_eq_getElem?_getD, hi, show i < zs.length by omega]

/-- One field of a struct in memory. -/
theorem field_at {t : TypeId} {fs : Array Field} {fuel : Nat} {cs : List Value} {x : DataW H × List MemPlace} (ht : Tryz.prog.underlying t = some (.struct fs)) (h : DataW.trod enc Tryz.prog w base spare held fuel t cs = some x)
    (j : Nat) (f : Field) (hj : fs[j]? = some f) (h1 : Tryz.prog.cellsOf f.type = 1) (v : Value) (hv : cs[f.offset]? = some v) : ∃ n y, DataW.trod enc Tryz.prog w base spare held n f.type [v] = some y := by
  obtain ⟨xs, n, _, _, _, hl, hf⟩ := DataW.trod_struct ht h
  have := hf j f hj
  rw [h1] at this
  have hd : (cs.drop f.offset).take 1 = [v] := by
    obtain ⟨hlt, hv'⟩ := List.getElem?_eq_some_iff.1 hv
    rw [List.drop_eq_getElem_cons hlt, hv']; rfl
  rw [hd] at this
  have hjl : j < xs.length := by rw [hl]; exact (Array.getElem?_eq_some_iff.1 hj).1
  exact ⟨n, xs[j], by rw [this]; exact List.getElem?_eq_getElem hjl⟩

/-- A slice of units of a mark that came in. -/
theorem opens_arg {fuel : Nat} {cs : List Value} {x : DataW H × List MemPlace} (h : DataW.trod enc Tryz.prog w base spare held fuel 68 cs = some x) : ∃ v l, cs = [v] ∧ Opens w v l := by
  rcases Deep.open_slice Tryz.underlying68 h with ⟨rfl, _⟩ | ⟨a, len, cap, m, n, D, Pl, rfl, _, hl, hm, hmm, _, hi⟩
  · exact ⟨_, [], rfl, none, 0, rfl, Nat.le_refl _, by decide, fun h => absurd h (by decide)⟩
  · rw [cells90] at hi
    have hlm : len ≤ m := by rw [hmm]; split <;> omega
    have el : ∀ i, i < len → ∃ u : Opn, w.cell? (a.add (i * 3)) = some (.int .i64 u.unit) ∧ w.cell? ((a.add (i * 3)).add 1) = some (.int .i64 u.next) ∧ w.cell? ((a.add (i * 3)).add 2) = some (.string u.ready) := by
      intro i hlt
      obtain ⟨cs', hc, ht⟩ := hi i (by omega)
      obtain ⟨_, hcl, hat⟩ := World.cells?_some hc
      match cs', hcl with
      | [c0, c1, c2], _ =>
        obtain ⟨_, _, f0⟩ := field_at Tryz.underlying133 ht 0 _ rfl cells3 c0 rfl
        obtain ⟨_, _, f1⟩ := field_at Tryz.underlying133 ht 1 _ rfl cells3 c1 rfl
        obtain ⟨_, _, f2⟩ := field_at Tryz.underlying133 ht 2 _ rfl cells9 c2 rfl
        obtain ⟨x0, e0, _⟩ := DataW.trod_int Tryz.underlying3 f0
        obtain ⟨x1, e1, _⟩ := DataW.trod_int Tryz.underlying3 f1
        obtain ⟨x2, e2, _⟩ := DataW.trod_string Tryz.underlying9 f2
        simp only [List.cons.injEq, and_true] at e0 e1 e2
        subst e0 e1 e2
        refine ⟨⟨x0, x1, x2⟩, ?_, hat 1 (by omega), hat 2 (by omega)⟩
        have := hat 0 (by omega)
        simpa [Addr.add] using this
    have ⟨g, hg⟩ : ∃ g : Nat → Opn, ∀ i, i < len → w.cell? (a.add (i * 3)) = some (.int .i64 (g i).unit) ∧ w.cell? ((a.add (i * 3)).add 1) = some (.int .i64 (g i).next) ∧ w.cell? ((a.add (i * 3)).add 2) = some (.string (g i).ready) :=
      ⟨fun i => if h : i < len then Classical.choose (el i h) else ⟨0, 0, ByteArray.empty⟩, fun i h => by simp only [h, dif_pos]; exact Classical.choose_spec (el i h)⟩
    refine ⟨_, (List.range len).map g, rfl, some a, cap, by simp, by simpa using hl, hm, fun h0 => ?_⟩
    have h0 : 0 < len := by simpa using h0
    obtain ⟨e, hb⟩ := addr_plain (hg 0 h0).1
    have e0 : a.add (0 * 3) = a := by simp [Addr.add]
    rw [e0] at e hb
    refine ⟨a.block, a.off, by rw [← e], hb, fun i hi => ?_⟩
    rw [opnVals_length, List.length_map, List.length_range] at hi
    have hk : i / 3 < len := by omega
    obtain ⟨g0, g1, g2⟩ := hg (i / 3) hk
    rw [e] at g0 g1 g2
    simp only [plain_add] at g0 g1 g2
    obtain ⟨o0, o1, o2⟩ := opnVals_get ((List.range len).map g) (i / 3) (by simpa using hk)
    simp only [List.getElem_map, List.getElem_range] at o0 o1 o2
    have hm3 : i = i / 3 * 3 ∨ i = i / 3 * 3 + 1 ∨ i = i / 3 * 3 + 2 := by omega
    rcases hm3 with h | h | h
    · rw [h, o0, ← g0]
    · rw [h, o1, ← g1]; rfl
    · rw [h, o2, ← g2]; rfl

theorem list_succ {α : Type} {l : List α} {n : Nat} (h : l.length = n + 1) : ∃ a m, l = a :: m ∧ m.length = n := by
  cases l with
  | nil => simp at h
  | cons a m => exact ⟨a, m, rfl, by simpa using h⟩
set_option maxRecDepth 100000 in
/-- A record that came in, by value. -/
theorem record_arg {r : Reach} {b0 : Nat} {v : Value} {d : DataW H} {p : List MemPlace} (hv : Value.okWide Tryz.prog w r b0 70 v) (h : DataW.Trod enc Tryz.prog w base spare held 70 v d p) :
    ∃ R bv av uv, v = .agg (recCells R bv av uv) ∧ RecAt w R bv av uv := by
  obtain ⟨cs, rfl, hsz⟩ := okWide_struct Tryz.underlying70 hv
  obtain ⟨fuel, hf⟩ := h
  obtain ⟨l⟩ := cs
  rw [cells25] at hsz
  obtain ⟨c0, l0, rfl, hl0⟩ := list_succ (show l.length = 10 from hsz)
  obtain ⟨c1, l1, rfl, hl1⟩ := list_succ hl0
  obtain ⟨c2, l2, rfl, hl2⟩ := list_succ hl1
  obtain ⟨c3, l3, rfl, hl3⟩ := list_succ hl2
  obtain ⟨c4, l4, rfl, hl4⟩ := list_succ hl3
  obtain ⟨c5, l5, rfl, hl5⟩ := list_succ hl4
  obtain ⟨c6, l6, rfl, hl6⟩ := list_succ hl5
  obtain ⟨c7, l7, rfl, hl7⟩ := list_succ hl6
  obtain ⟨c8, l8, rfl, hl8⟩ := list_succ hl7
  obtain ⟨c9, l9, rfl, hl9⟩ := list_succ hl8
  obtain rfl := List.eq_nil_of_length_eq_zero hl9
  have F := fun j f hj h1 v hv => field_at Tryz.underlying70 hf j f hj h1 v hv
  obtain ⟨_, _, f0⟩ := F 0 _ rfl cells3 c0 rfl
  obtain ⟨_, _, f1⟩ := F 1 _ rfl cells3 c1 rfl
  obtain ⟨_, _, f2⟩ := F 2 _ rfl cells3 c2 rfl
  obtain ⟨_, _, f3⟩ := F 3 _ rfl cells3 c3 rfl
  obtain ⟨_, _, f4⟩ := F 4 _ rfl cells22 c4 rfl
  obtain ⟨_, _, f5⟩ := F 5 _ rfl cells22 c5 rfl
  obtain ⟨_, _, f6⟩ := F 6 _ rfl cells3 c6 rfl
  obtain ⟨_, _, f7⟩ := F 7 _ rfl cells3 c7 rfl
  obtain ⟨_, _, f8⟩ := F 8 _ rfl cells9 c8 rfl
  obtain ⟨_, _, f9⟩ := F 9 _ rfl cells23 c9 rfl
  obtain ⟨x0, e0, _⟩ := DataW.trod_int Tryz.underlying3 f0
  obtain ⟨x1, e1, _⟩ := DataW.trod_int Tryz.underlying3 f1
  obtain ⟨x2, e2, _⟩ := DataW.trod_int Tryz.underlying3 f2
  obtain ⟨x3, e3, _⟩ := DataW.trod_int Tryz.underlying3 f3
  obtain ⟨v4, x4, e4, g4⟩ := bytes_arg f4
  obtain ⟨v5, x5, e5, g5⟩ := bytes_arg f5
  obtain ⟨x6, e6, _⟩ := DataW.trod_int Tryz.underlying3 f6
  obtain ⟨x7, e7, _⟩ := DataW.trod_int Tryz.underlying3 f7
  obtain ⟨x8, e8, _⟩ := DataW.trod_string Tryz.underlying9 f8
  obtain ⟨v9, x9, e9, g9⟩ := opens_arg f9
  simp only [List.cons.injEq, and_true] at e0 e1 e2 e3 e4 e5 e6 e7 e8 e9
  subst e0 e1 e2 e3 e4 e5 e6 e7 e8 e9
  exact ⟨⟨x0, x1, x2, x3, x4, x5, x6, x7, x8, x9⟩, _, _, _, rfl, g4, g5, g9⟩
end

end Go.Proofs.YtdccbceaajnajaaGreat

namespace Go.Proofs.YtdccbceaajnajaaGreat
open Go.RowKit Go.ChangeShapes Go.WideShapes
set_option linter.unusedSimpArgs false
set_option linter.unusedVariables false

/-- A call lies in memory. -/
structure MoveAt (w : World) (b o : Nat) (m : Move) : Prop where
  c0 : w.cell? ⟨b, o, none⟩ = some (.int .i64 m.kind)
  c1 : w.cell? ⟨b, o + 1, none⟩ = some (.int .i64 m.n)
  c2 : w.cell? ⟨b, o + 2, none⟩ = some (.int .i64 m.stamp)
  c3 : ∃ u, w.cell? ⟨b, o + 3, none⟩ = some u ∧ Bytes w u m.bytes
  few : m.n ≤ 2 ^ 63 - 1
theorem MoveAt.new {w w' : World} {b o : Nat} {m : Move} (h : MoveAt w b o m) (hb : b < w.heap.size) (hn : New w w') : MoveAt w' b o m := by
  obtain ⟨h0, h1, h2, ⟨u, h3, h4⟩, h5⟩ := h
  exact ⟨by rw [hn.cell b o hb]; exact h0, by rw [hn.cell b _ hb]; exact h1, by rw [hn.cell b _ hb]; exact h2, ⟨u, by rw [hn.cell b _ hb]; exact h3, RowAt.new h4 hn⟩, h5⟩
/-- The calls of a script. -/
def Moves (w : World) (v : Value) (l : List Move) : Prop :=
  ∃ p c, v = .slice p l.length c ∧ l.length ≤ c ∧ c ≤ maxLen ∧ (0 < l.length → ∃ b o, p = some ⟨b, o, none⟩ ∧ b < w.heap.size ∧ ∀ i (h : i < l.length), MoveAt w b (o + i * 4) l[i])
theorem Moves.new {w w' : World} {v : Value} {l : List Move} (h : Moves w v l) (hn : New w w') : Moves w' v l := by
  obtain ⟨p, c, e, h1, h2, h3⟩ := h
  refine ⟨p, c, e, h1, h2, fun h0 => ?_⟩
  obtain ⟨b, o, e1, e2, e3⟩ := h3 h0
  exact ⟨b, o, e1, Nat.lt_of_lt_of_le e2 hn.size, fun i hi => (e3 i hi).new e2 hn⟩
/-- Is a script one of few calls, of few bytes? -/
def fewOne (m : Move) : Bool := decide (m.bytes.size ≤ 300)
def fewB (l : List Move) : Bool := l.all fewOne && decide (l.length ≤ 40)
theorem fewB_no {l : List Move} {k : Nat} (hk : k < l.length) (h : fewOne l[k] = false) : fewB l = false := by
  have : l.all fewOne = false := by
    rw [List.all_eq_false]
    exact ⟨l[k], List.getElem_mem hk, by simp [h]⟩
  simp [fewB, this]
theorem fewB_end {l : List Move} (h : ∀ j (hj : j < l.length), fewOne l[j] = true) : fewB l = decide (l.length ≤ 40) := by
  have : l.all fewOne = true := by
    rw [List.all_eq_true]
    intro x hx
    obtain ⟨i, hi, rfl⟩ := List.mem_iff_getElem.1 hx
    exact h i hi
  simp [fewB, this]
theorem fewB_yes {l : List Move} (h : fewB l = true) : l.length ≤ 40 ∧ ∀ m ∈ l, m.bytes.size ≤ 300 := by
  unfold fewB at h
  rw [Bool.and_eq_true, List.all_eq_true] at h
  refine ⟨by simpa using h.2, fun m hm => ?_⟩
  have := h.1 m hm
  simpa [fewOne] using this
theorem ret_bool' {a b : Bool} (h : a = b) : Ending.returned (.bool a) = .returned (.bool b) := by rw [h]

set_option maxHeartbeats 1000000 in
theorem few_any (v : Value) (l : List Move) (w : World) (h : Moves w v l) : Calls Tryz.prog 6 #[v] w fun e w' => e = .returned (.bool (fewB l)) ∧ w = w' := by
  obtain ⟨gp, gc, rfl, g1, g2, g3⟩ := h
  unfold maxLen at g2
  have G3 := hid g3
  clear g3
  go_enter Tryz.func6, Tryz.ntmps6
  go_wp2
  go_loopw [3] (fun i wr => ∃ k : Nat, k ≤ l.length ∧ i = .int .i64 k ∧ w = wr ∧ Hid (∀ j (hj : j < l.length), j < k → fewOne l[j] = true)) (fun i _ => l.length - (intOf i).toNat)
  case atStart => exact ⟨0, Nat.zero_le _, rfl, rfl, hid fun j hj h => by omega⟩
  case round =>
    obtain ⟨k, hk, rfl, rfl, hall⟩ := hrel
    by_cases hlt : k < l.length
    · obtain ⟨b, o, rfl, hb, hc⟩ := G3.out (by omega)
      obtain ⟨_, _, _, ⟨u, c3, ⟨q, cu, rfl, s1, s2, _⟩⟩, _⟩ := hc k hlt
      unfold maxLen at s2
      have HNO : Hid (fewOne l[k] = false → fewB l = false) := fewB_no hlt
      have HGO : Hid (fewOne l[k] = true → ∃ k' : Nat, k' ≤ l.length ∧ Value.int .i64 ((k : Int) + 1) = .int .i64 k' ∧ True ∧ Hid (∀ j (hj : j < l.length), j < k' → fewOne l[j] = true)) := fun ho =>
        ⟨k + 1, by omega, by simp, trivial, fun j hj hj2 => by
          rcases Nat.lt_or_ge j k with h | h
          · exact hall.out j hj h
          · obtain rfl : j = k := by omega
            exact ho⟩
      clear hall hc
      generalize hx : l[k] = x at *
      clear hx
      by_cases e1 : x.bytes.size ≤ 300
      case neg =>
        have t1 : decide ((300 : Int) < (x.bytes.size : Int)) = true := by simp; omega
        have E1 := hid e1
        clear e1
        go_wp2
        go_ret
        exact ⟨ret_bool' (HNO.out (by simp [fewOne, E1.out])).symm, rfl⟩
      have t1 : decide ((300 : Int) < (x.bytes.size : Int)) = false := by simp; omega
      have E1 := hid e1
      clear e1
      go_wp2
      go_roundw
      case rel => exact HGO.out (by simp [fewOne, E1.out])
      case measure => simp [intOf]; omega
    · obtain rfl : k = l.length := by omega
      have HE : Hid _ := fewB_end fun j hj => hall.out j hj hj
      go_wp2
      go_ret
      exact ⟨ret_bool' (by rw [HE.out]; simp; omega), rfl⟩

section
variable {H : Type} {enc : TypeId × Value → H} {w : World} {base : Nat} {held : Bool}
theorem add_flat {a : Addr} {k : Nat} {v : Value} (h : w.cell? (a.add k) = some v) : a.add k = ⟨a.block, a.off + k, none⟩ ∧ a.block < w.heap.size := by
  by_cases hk : k = 0
  · subst hk
    have e0 : a.add 0 = a := by simp [Addr.add]
    rw [e0] at h ⊢
    exact addr_plain h
  · have e0 : a.add k = ⟨a.block, a.off + k, none⟩ := by unfold Addr.add; rw [if_neg hk]
    rw [e0] at h ⊢
    exact ⟨rfl, (addr_plain h).2⟩
/-- A script that came in. -/
theorem moves_arg {fuel : Nat} {cs : List Value} {x : DataW H × List MemPlace} (h : DataW.trod enc Tryz.prog w base (fun _ => true) held fuel 22 cs = some x) : ∃ v l, cs = [v] ∧ Moves w v l := by
  rcases Deep.open_slice Tryz.underlying22 h with ⟨rfl, _⟩ | ⟨a, len, cap, m, n, D, Pl, rfl, _, hl, hm, hmm, _, hi⟩
  · exact ⟨_, [], rfl, none, 0, rfl, Nat.le_refl _, by decide, fun h => absurd h (by decide)⟩
  · rw [cells31] at hi
    have hlm : len ≤ m := by rw [hmm]; split <;> omega
    have el : ∀ i, i < len → ∃ u : Move, (a.add (i * 4)) = ⟨a.block, a.off + i * 4, none⟩ ∧ a.block < w.heap.size ∧ MoveAt w a.block (a.off + i * 4) u := by
      intro i hlt
      obtain ⟨cs', hc, ht⟩ := hi i (by omega)
      obtain ⟨_, hcl, hat⟩ := World.cells?_some hc
      match cs', hcl with
      | [c0, c1, c2, c3], _ =>
        obtain ⟨_, _, f0⟩ := field_at Tryz.underlying31 ht 0 _ rfl cells3 c0 rfl
        obtain ⟨_, _, f1⟩ := field_at Tryz.underlying31 ht 1 _ rfl cells3 c1 rfl
        obtain ⟨_, _, f2⟩ := field_at Tryz.underlying31 ht 2 _ rfl cells3 c2 rfl
        obtain ⟨_, _, f3⟩ := field_at Tryz.underlying31 ht 3 _ rfl cells22 c3 rfl
        obtain ⟨x0, e0, _⟩ := DataW.trod_int Tryz.underlying3 f0
        obtain ⟨x1, e1, _, hwf⟩ := DataW.trod_int Tryz.underlying3 f1
        obtain ⟨x2, e2, _⟩ := DataW.trod_int Tryz.underlying3 f2
        obtain ⟨v3, x3, e3, g3⟩ := bytes_arg f3
        simp only [List.cons.injEq, and_true] at e0 e1 e2 e3
        subst e0 e1 e2 e3
        have z0 := hat 0 (by omega)
        have z1 := hat 1 (by omega)
        have z2 := hat 2 (by omega)
        have z3 := hat 3 (by omega)
        have ea : ((a.add (i * 4)).add 0) = a.add (i * 4) := by simp [Addr.add]
        rw [ea] at z0
        obtain ⟨e5, hb⟩ := add_flat z0
        rw [e5] at z0 z1 z2 z3
        simp only [plain_add] at z1 z2 z3
        have hx1 : x1 ≤ 2 ^ 63 - 1 := by
          simp [Lit.wf, IntKind.min, IntKind.max, IntKind.signed, IntKind.bits] at hwf
          omega
        exact ⟨⟨x0, x1, x2, x3⟩, e5, hb, ⟨z0, z1, z2, ⟨_, z3, g3⟩, hx1⟩⟩
    have ⟨g, hg⟩ : ∃ g : Nat → Move, ∀ i, i < len → (a.add (i * 4)) = ⟨a.block, a.off + i * 4, none⟩ ∧ a.block < w.heap.size ∧ MoveAt w a.block (a.off + i * 4) (g i) :=
      ⟨fun i => if h : i < len then Classical.choose (el i h) else ⟨0, 0, 0, ByteArray.empty⟩, fun i h => by simp only [h, dif_pos]; exact Classical.choose_spec (el i h)⟩
    refine ⟨_, (List.range len).map g, rfl, some a, cap, by simp, by simpa using hl, hm, fun h0 => ?_⟩
    have h0 : 0 < len := by simpa using h0
    obtain ⟨e, hb, _⟩ := hg 0 h0
    have e0 : a.add (0 * 4) = a := by simp [Addr.add]
    rw [e0] at e
    refine ⟨a.block, a.off, by rw [e], hb, fun i hi => ?_⟩
    simp only [List.getElem_map, List.getElem_range]
    exact (hg i (by simpa using hi)).2.2
end
end Go.Proofs.YtdccbceaajnajaaGreat

namespace Go.Proofs.YtdccbceaajnajaaGreat
open Go.RowKit
set_option linter.unusedSimpArgs false
set_option linter.unusedVariables false

/-- What holds in front of the next call of the script. -/
structure Going (w wr : World) (x b tb pb rb rp N j : Nat) : Prop where
  both : ∃ ow ot os rw fo A T P, Both w wr x b ow tb ot pb os rb rw rp fo A T P ∧ Fine N j A T P ∧ A.down = false
theorem fine_new (N : Nat) (h1 : 2 ≤ N) (h2 : N ≤ 16) : Fine N 0 newA tape0 ⟨N, [], 0⟩ :=
  ⟨rfl, h1, h2, Nat.zero_le _, List.nodup_nil, fun p hp => (by cases hp), lim_new, Nat.le_refl _, Nat.le_refl _⟩
set_option maxHeartbeats 8000000 in
set_option maxRecDepth 100000 in
theorem pages_law (fr : Int) (v : Value) (l : List Move) (w : World) (hf0 : 0 ≤ fr) (hf1 : fr ≤ 255) (h : Moves w v l) :
    Calls Tryz.prog 5 #[.int .u8 fr, v] w fun e w' => e = .returned (.bool true) ∧ New w w' := by
  have H := hid h
  obtain ⟨gp, gc, rfl, g1, g2, g3⟩ := h
  have G3 := hid g3
  clear g3
  unfold maxLen at g2
  cases hf : fewB l with
  | false =>
    go_enter Tryz.func5, Tryz.ntmps5
    go_wp2_with fail
    refine (few_any _ l _ H.out).mono ?_
    rintro e w' ⟨rfl, rfl⟩
    rw [hf]
    go_wp2_with fail
    refine (pawake_any _).mono ?_
    rintro e w' ⟨rfl, hn⟩
    go_wp2
    go_ret
    exact ⟨rfl, hn⟩
  | true =>
    obtain ⟨hl, hb3⟩ := fewB_yes hf
    have HB3 := hid hb3
    clear hb3
    obtain ⟨N, hN, hN2, hN16⟩ : ∃ N : Nat, 2 + fr % 15 = (N : Int) ∧ 2 ≤ N ∧ N ≤ 16 := ⟨(2 + fr % 15).toNat, by omega, by omega, by omega⟩
    have HN := hid hN
    clear hN
    have HN2 := hid (And.intro hN2 hN16)
    clear hN2 hN16
    go_enter Tryz.func5, Tryz.ntmps5
    go_wp2_with fail
    refine (few_any _ l _ H.out).mono ?_
    rintro e w' ⟨rfl, rfl⟩
    rw [hf]
    go_wp2_with fail
    rw [HN.out]
    refine (newPair_any N _ HN2.out.1 HN2.out.2).mono ?_
    rintro e w1 ⟨x, b, ow, tb, ot, pb, rb, rp, rfl, B1⟩
    have G1 : Hid (Going w w1 x b tb pb rb rp N 0) := hid ⟨⟨_, _, _, _, _, _, _, _, B1, fine_new N HN2.out.1 HN2.out.2, rfl⟩⟩
    clear B1
    go_wp2_with fail
    go_loopw [7, 8, 9] (fun i _ _ wr => ∃ j : Nat, j ≤ l.length ∧ i = .int .i64 j ∧ Hid (Going w wr x b tb pb rb rp N j)) (fun i _ _ _ => l.length - (intOf i).toNat)
    case atStart => exact ⟨0, Nat.zero_le _, rfl, G1⟩
    case round =>
      clear G1
      obtain ⟨j, hj, rfl, hG⟩ := hrel
      obtain ⟨ow, ot, os, rw, fo, A, T, P, hB, hF, hd⟩ := hG.out.both
      by_cases hlt : j < l.length
      · obtain ⟨b0, o0, rfl, hb0, hact⟩ := G3.out (by omega)
        obtain ⟨d0, d1, d2, ⟨u, d3, hbs⟩, hmn⟩ := hact j hlt
        have hms := HB3.out _ (List.getElem_mem hlt)
        clear hact
        generalize l[j] = m at *
        obtain ⟨q, cu, rfl, s1, s2, _⟩ := id hbs
        unfold maxLen at s2
        have hnw := hB.sys.log.new
        have c0 := (hnw.cell b0 _ hb0).trans d0
        have c1 := (hnw.cell b0 _ hb0).trans d1
        have c2 := (hnw.cell b0 _ hb0).trans d2
        have c3 := (hnw.cell b0 _ hb0).trans d3
        have HCALL := hid (does_any w x b ow tb ot pb os rb rw rp fo A T P N j m q cu wr hB hF hd (by omega) hbs hms hmn)
        have HW := hid (fun (k : Nat) (hk : k ∉ P.frames.map (·.1)) => step_call_any (k := k) m hF hd hB.sys.pool.nodup hk (by omega))
        clear d0 d1 d2 d3 hbs hms hmn hnw hB hF hd hG
        go_wp2_with fail
        refine HCALL.out.mono ?_
        rintro e w2 ⟨k, ow2, ot2, os2, rw2, fo2, hk, rfl, B2, -⟩
        have W2 := hid (HW.out k hk)
        generalize callU m A T P k = U at *
        have HB2 := hid B2
        clear hk B2 HW HCALL c0 c1 c2 c3
        have HSAME := hid (same_any w x b ow2 tb ot2 pb os2 rb rw2 rp fo2 U.A U.T U.P N (j + 1) w2 HB2.out W2.out.fine (by omega))
        go_wp2_with fail
        refine HSAME.out.mono ?_
        rintro e w3 ⟨rfl, hn3⟩
        have HB3' := hid (HB2.out.newer hn3)
        clear hn3 HSAME HB2
        by_cases h7 : U.e = 7
        · have q7 : (U.e == 7) = true := by simp [h7]
          have HNW := hid HB3'.out.sys.log.new
          clear h7
          go_wp2_with fail
          refine (pawake_any _).mono ?_
          rintro e w' ⟨rfl, hn⟩
          go_wp2
          go_ret
          exact ⟨rfl, HNW.out.trans hn⟩
        · have q7 : (U.e == 7) = false := by simp [h7]
          have HUP := hid (W2.out.up h7)
          clear h7
          go_wp2
          go_roundw
          case rel => exact ⟨j + 1, by omega, by go_num, hid ⟨⟨_, _, _, _, _, _, _, _, HB3'.out, W2.out.fine, HUP.out⟩⟩⟩
          case measure => simp [intOf]; omega
      · obtain rfl : j = l.length := by omega
        have HNW := hid hB.sys.log.new
        clear hB hF hd hG
        go_wp2_with fail
        refine (pawake_any _).mono ?_
        rintro e w' ⟨rfl, hn⟩
        go_wp2
        go_ret
        exact ⟨rfl, HNW.out.trans hn⟩
theorem pages_row (v : Value) (fr : Int) (l : List Move) (w : World) (hf : 0 ≤ fr ∧ fr ≤ 255) (h : Moves w v l) :
    Calls Tryz.prog 5 #[.int .u8 fr, v] w fun e w' => e = .returned (.bool true) ∧ New w w' := pages_law fr v l w hf.1 hf.2 h
end Go.Proofs.YtdccbceaajnajaaGreat
