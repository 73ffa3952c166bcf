/- Arguments opened: a slice of bytes, a slice of units, a record. -/
import Derived.Test.YtmchbciofdokfaaProg
import Derived.Test.YtmchbciofdokfaaA0
import Derived.ProofKit
import Derived.Deep.Slices
namespace Go.Proofs.Ytmchbciofdokfaa
open Go.RowKit Go.ChangeShapes Go.WideShapes
set_option linter.unusedVariables false

theorem cells5 : Try.prog.cellsOf 5 = 1 := by kernel_rfl
theorem cells90 : Try.prog.cellsOf 47 = 3 := by kernel_rfl
theorem cells25 : Try.prog.cellsOf 36 = 10 := by kernel_rfl
theorem cells3 : Try.prog.cellsOf 3 = 1 := by kernel_rfl
theorem cells9 : Try.prog.cellsOf 9 = 1 := by kernel_rfl
theorem cells22 : Try.prog.cellsOf 33 = 1 := by kernel_rfl
theorem cells23 : Try.prog.cellsOf 34 = 1 := by kernel_rfl

section
variable {H : Type} {enc : TypeId × Value → H} {w : World} {base : Nat} {spare : Nat → Bool} {held : Bool}

theorem addr_plain {a : Addr} {v : Value} (h : w.cell? a = some v) : a = ⟨a.block, a.off, none⟩ ∧ a.block < w.heap.size := by
  refine ⟨?_, World.block_lt_of_cell? w a h⟩
  obtain ⟨b, o, s⟩ := a
  cases s with
  | none => rfl
  | some s =>
    simp only [World.cell?] at h
    split at h <;> simp at h
theorem plain_add (b o j : Nat) : (⟨b, o, none⟩ : Addr).add j = ⟨b, o + j, none⟩ := by unfold Addr.add; split <;> simp_all

theorem nums_str {zs : List Int} (h : ∀ n ∈ zs, (Lit.int .u8 n).wf = true) : byteVals (strOfNums zs) = zs.map (Value.int .u8) := by
  simp only [byteVals, strOfNums, List.map_map]
  apply List.map_congr_left
  intro n hn
  have := h n hn
  simp [Lit.wf, IntKind.min, IntKind.max, IntKind.signed, IntKind.bits] at this
  simp only [Function.comp_apply, UInt8.toNat_ofNat']
  congr 1
  omega

/-- A slice of bytes that came in. -/
theorem bytes_arg {fuel : Nat} {cs : List Value} {x : DataW H × List MemPlace} (h : DataW.trod enc Try.prog w base spare held fuel 33 cs = some x) : ∃ v s, cs = [v] ∧ Bytes w v s := by
  rcases open_ints Try.underlying33 Try.underlying5 cells5 h with ⟨rfl, _⟩ | ⟨a, len, cap, zs, rfl, _, hl, hm, hz, _, hcell, hwz⟩
  · exact ⟨_, ByteArray.empty, rfl, none, 0, rfl, Nat.le_refl _, by decide, fun h => absurd h (by decide)⟩
  · have hlen : len ≤ zs.length := by rw [hz]; split <;> omega
    have hs : (strOfNums (zs.take len)).size = len := by rw [strOfNums_size, List.length_take]; omega
    refine ⟨_, strOfNums (zs.take len), rfl, some a, cap, by rw [hs], by rw [hs]; exact hl, hm, fun h0 => ?_⟩
    rw [hs] at h0
    obtain ⟨e, hb⟩ := addr_plain (hcell 0 (by omega) : w.cell? (a.add 0) = _)
    have e0 : a.add 0 = a := by simp [Addr.add]
    rw [e0] at e hb
    refine ⟨a.block, a.off, by rw [← e], hb, fun i hi => ?_⟩
    rw [byteVals_length, hs] at hi
    have hc := hcell i (by omega)
    rw [e, plain_add] at hc
    rw [hc, nums_str (fun n hn => hwz n (List.mem_of_mem_take hn))]
    simp [List.getD_eq_getElem?_getD, hi, show i < zs.length by omega]

/-- One field of a struct in memory. -/
theorem field_at {t : TypeId} {fs : Array Field} {fuel : Nat} {cs : List Value} {x : DataW H × List MemPlace} (ht : Try.prog.underlying t = some (.struct fs)) (h : DataW.trod enc Try.prog w base spare held fuel t cs = some x)
    (j : Nat) (f : Field) (hj : fs[j]? = some f) (h1 : Try.prog.cellsOf f.type = 1) (v : Value) (hv : cs[f.offset]? = some v) : ∃ n y, DataW.trod enc Try.prog w base spare held n f.type [v] = some y := by
  obtain ⟨xs, n, _, _, _, hl, hf⟩ := DataW.trod_struct ht h
  have := hf j f hj
  rw [h1] at this
  have hd : (cs.drop f.offset).take 1 = [v] := by
    obtain ⟨hlt, hv'⟩ := List.getElem?_eq_some_iff.1 hv
    rw [List.drop_eq_getElem_cons hlt, hv']; rfl
  rw [hd] at this
  have hjl : j < xs.length := by rw [hl]; exact (Array.getElem?_eq_some_iff.1 hj).1
  exact ⟨n, xs[j], by rw [this]; exact List.getElem?_eq_getElem hjl⟩

/-- A slice of units of a mark that came in. -/
theorem opens_arg {fuel : Nat} {cs : List Value} {x : DataW H × List MemPlace} (h : DataW.trod enc Try.prog w base spare held fuel 34 cs = some x) : ∃ v l, cs = [v] ∧ Opens w v l := by
  rcases Deep.open_slice Try.underlying34 h with ⟨rfl, _⟩ | ⟨a, len, cap, m, n, D, Pl, rfl, _, hl, hm, hmm, _, hi⟩
  · exact ⟨_, [], rfl, none, 0, rfl, Nat.le_refl _, by decide, fun h => absurd h (by decide)⟩
  · rw [cells90] at hi
    have hlm : len ≤ m := by rw [hmm]; split <;> omega
    have el : ∀ i, i < len → ∃ u : Opn, w.cell? (a.add (i * 3)) = some (.int .i64 u.unit) ∧ w.cell? ((a.add (i * 3)).add 1) = some (.int .i64 u.next) ∧ w.cell? ((a.add (i * 3)).add 2) = some (.string u.ready) := by
      intro i hlt
      obtain ⟨cs', hc, ht⟩ := hi i (by omega)
      obtain ⟨_, hcl, hat⟩ := World.cells?_some hc
      match cs', hcl with
      | [c0, c1, c2], _ =>
        obtain ⟨_, _, f0⟩ := field_at Try.underlying47 ht 0 _ rfl cells3 c0 rfl
        obtain ⟨_, _, f1⟩ := field_at Try.underlying47 ht 1 _ rfl cells3 c1 rfl
        obtain ⟨_, _, f2⟩ := field_at Try.underlying47 ht 2 _ rfl cells9 c2 rfl
        obtain ⟨x0, e0, _⟩ := DataW.trod_int Try.underlying3 f0
        obtain ⟨x1, e1, _⟩ := DataW.trod_int Try.underlying3 f1
        obtain ⟨x2, e2, _⟩ := DataW.trod_string Try.underlying9 f2
        simp only [List.cons.injEq, and_true] at e0 e1 e2
        subst e0 e1 e2
        refine ⟨⟨x0, x1, x2⟩, ?_, hat 1 (by omega), hat 2 (by omega)⟩
        have := hat 0 (by omega)
        simpa [Addr.add] using this
    have ⟨g, hg⟩ : ∃ g : Nat → Opn, ∀ i, i < len → w.cell? (a.add (i * 3)) = some (.int .i64 (g i).unit) ∧ w.cell? ((a.add (i * 3)).add 1) = some (.int .i64 (g i).next) ∧ w.cell? ((a.add (i * 3)).add 2) = some (.string (g i).ready) :=
      ⟨fun i => if h : i < len then Classical.choose (el i h) else ⟨0, 0, ByteArray.empty⟩, fun i h => by simp only [h, dif_pos]; exact Classical.choose_spec (el i h)⟩
    refine ⟨_, (List.range len).map g, rfl, some a, cap, by simp, by simpa using hl, hm, fun h0 => ?_⟩
    have h0 : 0 < len := by simpa using h0
    obtain ⟨e, hb⟩ := addr_plain (hg 0 h0).1
    have e0 : a.add (0 * 3) = a := by simp [Addr.add]
    rw [e0] at e hb
    refine ⟨a.block, a.off, by rw [← e], hb, fun i hi => ?_⟩
    rw [opnVals_length, List.length_map, List.length_range] at hi
    have hk : i / 3 < len := by omega
    obtain ⟨g0, g1, g2⟩ := hg (i / 3) hk
    rw [e] at g0 g1 g2
    simp only [plain_add] at g0 g1 g2
    obtain ⟨o0, o1, o2⟩ := opnVals_get ((List.range len).map g) (i / 3) (by simpa using hk)
    simp only [List.getElem_map, List.getElem_range] at o0 o1 o2
    have hm3 : i = i / 3 * 3 ∨ i = i / 3 * 3 + 1 ∨ i = i / 3 * 3 + 2 := by omega
    rcases hm3 with h | h | h
    · rw [h, o0, ← g0]
    · rw [h, o1, ← g1]; rfl
    · rw [h, o2, ← g2]; rfl

theorem list_succ {α : Type} {l : List α} {n : Nat} (h : l.length = n + 1) : ∃ a m, l = a :: m ∧ m.length = n := by
  cases l with
  | nil => simp at h
  | cons a m => exact ⟨a, m, rfl, by simpa using h⟩
set_option maxRecDepth 100000 in
/-- A record that came in, by value. -/
theorem record_arg {r : Reach} {b0 : Nat} {v : Value} {d : DataW H} {p : List MemPlace} (hv : Value.okWide Try.prog w r b0 36 v) (h : DataW.Trod enc Try.prog w base spare held 36 v d p) :
    ∃ R bv av uv, v = .agg (recCells R bv av uv) ∧ RecAt w R bv av uv := by
  obtain ⟨cs, rfl, hsz⟩ := okWide_struct Try.underlying36 hv
  obtain ⟨fuel, hf⟩ := h
  obtain ⟨l⟩ := cs
  rw [cells25] at hsz
  obtain ⟨c0, l0, rfl, hl0⟩ := list_succ (show l.length = 10 from hsz)
  obtain ⟨c1, l1, rfl, hl1⟩ := list_succ hl0
  obtain ⟨c2, l2, rfl, hl2⟩ := list_succ hl1
  obtain ⟨c3, l3, rfl, hl3⟩ := list_succ hl2
  obtain ⟨c4, l4, rfl, hl4⟩ := list_succ hl3
  obtain ⟨c5, l5, rfl, hl5⟩ := list_succ hl4
  obtain ⟨c6, l6, rfl, hl6⟩ := list_succ hl5
  obtain ⟨c7, l7, rfl, hl7⟩ := list_succ hl6
  obtain ⟨c8, l8, rfl, hl8⟩ := list_succ hl7
  obtain ⟨c9, l9, rfl, hl9⟩ := list_succ hl8
  obtain rfl := List.eq_nil_of_length_eq_zero hl9
  have F := fun j f hj h1 v hv => field_at Try.underlying36 hf j f hj h1 v hv
  obtain ⟨_, _, f0⟩ := F 0 _ rfl cells3 c0 rfl
  obtain ⟨_, _, f1⟩ := F 1 _ rfl cells3 c1 rfl
  obtain ⟨_, _, f2⟩ := F 2 _ rfl cells3 c2 rfl
  obtain ⟨_, _, f3⟩ := F 3 _ rfl cells3 c3 rfl
  obtain ⟨_, _, f4⟩ := F 4 _ rfl cells22 c4 rfl
  obtain ⟨_, _, f5⟩ := F 5 _ rfl cells22 c5 rfl
  obtain ⟨_, _, f6⟩ := F 6 _ rfl cells3 c6 rfl
  obtain ⟨_, _, f7⟩ := F 7 _ rfl cells3 c7 rfl
  obtain ⟨_, _, f8⟩ := F 8 _ rfl cells9 c8 rfl
  obtain ⟨_, _, f9⟩ := F 9 _ rfl cells23 c9 rfl
  obtain ⟨x0, e0, _⟩ := DataW.trod_int Try.underlying3 f0
  obtain ⟨x1, e1, _⟩ := DataW.trod_int Try.underlying3 f1
  obtain ⟨x2, e2, _⟩ := DataW.trod_int Try.underlying3 f2
  obtain ⟨x3, e3, _⟩ := DataW.trod_int Try.underlying3 f3
  obtain ⟨v4, x4, e4, g4⟩ := bytes_arg f4
  obtain ⟨v5, x5, e5, g5⟩ := bytes_arg f5
  obtain ⟨x6, e6, _⟩ := DataW.trod_int Try.underlying3 f6
  obtain ⟨x7, e7, _⟩ := DataW.trod_int Try.underlying3 f7
  obtain ⟨x8, e8, _⟩ := DataW.trod_string Try.underlying9 f8
  obtain ⟨v9, x9, e9, g9⟩ := opens_arg f9
  simp only [List.cons.injEq, and_true] at e0 e1 e2 e3 e4 e5 e6 e7 e8 e9
  subst e0 e1 e2 e3 e4 e5 e6 e7 e8 e9
  exact ⟨⟨x0, x1, x2, x3, x4, x5, x6, x7, x8, x9⟩, _, _, _, rfl, g4, g5, g9⟩
end

end Go.Proofs.Ytmchbciofdokfaa
