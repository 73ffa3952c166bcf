/- The specification's world: what add turns. The specification's world: add adds a record. The specification's walk: the world of records, if they are sound. -/
import Derived.Test.YtmchbciofdokfaaX2
import Derived.Test.YtmchbciofdokfaaW26
import Derived.Deep.CutRange
import Derived.Deep.RegionLaw
import Derived.Test.YtmchbciofdokfaaX8
namespace Go.Proofs.Ytmchbciofdokfaa
open Go.RowKit
set_option linter.unusedSimpArgs false
set_option linter.unusedVariables false

theorem RefAt.congr {w0 : Base} {w : World} {wb : Nat} {S : RSh} {W W' : PW} (h : RefAt w0 w wb S W) (h1 : W'.recs = W.recs) (h2 : W'.page = W.page) (h3 : W'.stamp = W.stamp) (h4 : W'.unit = W.unit) : RefAt w0 w wb S W' := by
  cases W
  cases W'
  simp only at h1 h2 h3 h4
  subst h1 h2 h3 h4
  exact ⟨h.new, h.raw, h.f0, h.f1, h.page, h.stamp, h.recs, h.units, h.fb, h.fo, h.fu, h.gh⟩
/-- Bytes that lie where they lay, or in a block of bytes. -/
def AfterAt (w0 w : World) (v : Value) (s : ByteArray) : Prop := Bytes w0 v s ∨ Content w v s
theorem AfterAt.bytes {w0 w : World} {v : Value} {s : ByteArray} (h : AfterAt w0 w v s) (hn : New w0 w) : Bytes w v s := h.elim (fun h => h.new hn) (fun h => h.1)
theorem AfterAt.turn {X : Nat → Prop} {w0 w w' : World} {v : Value} {s : ByteArray} (h : AfterAt w0 w v s) (ht : Turn X w w') (hX : ∀ k, X k → ∀ c fr, w.heap[k]? ≠ some (.cells c 5 fr)) : AfterAt w0 w' v s :=
  h.imp id (fun h => h.turn ht (fun k c fr hk e => hX k hk c fr e))
theorem AfterAt.new {w0 w w' : World} {v : Value} {s : ByteArray} (h : AfterAt w0 w v s) (hn : New w w') : AfterAt w0 w' v s := h.turn (X := fun _ => False) (Turn.of_new hn) (fun k hk => hk.elim)
variable {w0 : Base} {w w' : World} {wb : Nat} {S : RSh} {W : PW}
/-- A record appended. -/
theorem RefAt.recsEnd {wx w8 : World} (h : RefAt w0 w wb S W) {r : Rec} {bv av uv rv : Value} (hrv : S.rv = rv) (hr : RecIf w0 r bv av uv) {xs : List Value} (hc : RecCells (RecIf w0) W.recs xs) (nx : New w wx) {g k : Nat}
    (own : w8.ownsRow 0 36 10 (.slice (some ⟨g, 0, none⟩) (W.recs.length + 1) k) (W.recs.length + 1) (xs ++ (recCells r bv av uv).toList)) (grow : wx.grownBy w8 rv.ownBlock) (blk : rv.ownBlock = some g ∨ g = wx.heap.size) :
    RefAt w0 (w8.setCell ⟨wb, 0, none⟩ (.slice (some ⟨g, 0, none⟩) (W.recs.length + 1) k)) wb { S with f := upd S.f 0 (.slice (some ⟨g, 0, none⟩) (W.recs.length + 1) k), rv := .slice (some ⟨g, 0, none⟩) (W.recs.length + 1) k } { W with recs := W.recs ++ [r] } ∧
      Turn (fun k => k = wb ∨ rv.ownBlock = some k) w (w8.setCell ⟨wb, 0, none⟩ (.slice (some ⟨g, 0, none⟩) (W.recs.length + 1) k)) := by
  subst hrv
  obtain ⟨xs0, hr1, _⟩ := h.recs
  obtain ⟨cb, hcb⟩ := h.base
  have hne : S.rv.ownBlock ≠ some wb := fun e => by
    obtain ⟨c, hc, _⟩ := own_cells hr1 e
    exact absurd (kind_cells hc hcb).2 (by decide)
  have t8 : Turn (fun k => S.rv.ownBlock = some k) w w8 := (Turn.of_new nx).grown grow (fun k _ hk => hk)
  have b8 := h.raw.turn t8 hne
  have hgw : g ≠ wb := fun e => by
    rcases blk with h1 | h1
    · exact hne (e ▸ h1)
    · have := h.lt
      have := nx.size
      omega
  have t9 : Turn (fun k => k = wb ∨ S.rv.ownBlock = some k) w (w8.setCell ⟨wb, 0, none⟩ (.slice (some ⟨g, 0, none⟩) (W.recs.length + 1) k)) := (t8.mono fun k _ hk => .inr hk).trans ((turn_cell w8 wb 0 _).mono fun k _ hk => .inl hk)
  refine ⟨h.setRecs t9 (fun k hk => hk) (b8.set 0 _) ⟨xs ++ (recCells r bv av uv).toList, ?_, hc.snoc hr⟩ (fun k hk => ?_), t9⟩
  · rw [List.length_append, List.length_singleton]
    exact own_turn own (turn_cell w8 wb 0 _) (fun k hk e => by
      simp [Value.ownBlock] at hk
      exact hgw (hk.trans e))
  · simp [Value.ownBlock] at hk
    subst hk
    rcases blk with h1 | h1
    · exact .inl h1
    · right
      have := nx.size
      omega
theorem turn_wb (h : RefAt w0 w wb S W) {rv : Value} (hrv : S.rv = rv) : ∀ k, (k = wb ∨ rv.ownBlock = some k) → ∀ c t fr, w.heap[k]? = some (.cells c t fr) → t = 83 ∨ t = 36 := fun k hk c t fr e => by
  subst hrv
  obtain ⟨xs0, hr1, _⟩ := h.recs
  obtain ⟨cb, hcb⟩ := h.base
  rcases hk with rfl | hk
  · exact .inl (kind_cells e hcb).2
  · obtain ⟨c', hc, _⟩ := own_cells hr1 hk
    exact .inr (kind_cells e hc).2
theorem ref_page_size (h : RefAt w0 w wb S W) {p : Nat} (hp : p < 120) (hz : (W.page p).size = 128) : (byteVals (W.page p)).length = 128 := by rw [byteVals_length, hz]
/-- The bytes of a record laid in its page. -/
theorem ref_copy (h : RefAt w0 w wb S W) {pn an : Nat} (hp : pn < 120) (hz : (W.page pn).size = 128) {t : ByteArray} (hf : an + t.size ≤ 128) {bA oA ac : Nat} (hA : ∀ i, i < (byteVals t).length → w.cell? ⟨bA, oA + i, none⟩ = some ((byteVals t).getD i undef)) :
    ∃ (cs : Array Value) (f' : Nat → Value), (Builtin.copy_ #[33, 33] 3 #[.slice (some ⟨wb, 2 + pn * 128 + an, none⟩) (128 - an) (128 - an), .slice (some ⟨bA, oA, none⟩) t.size ac]).run Try.prog w = .ok (.int .i64 t.size) (w.setRow wb cs) ∧
      Raw (w.setRow wb cs) wb 83 15482 f' ∧ (∀ i, i < 128 → (byteVals (layB (W.page pn) an t))[i]? = some (f' (2 + pn * 128 + i))) ∧ (∀ i, i < 15482 → (i < 2 + pn * 128 ∨ 2 + pn * 128 + 128 ≤ i) → f' i = S.f i) := by
  obtain ⟨cur, hg, hsz, hcell⟩ := h.raw
  have hlen : cur.toList.length = 15482 := by simpa using hsz
  have hlb := byteVals_length t
  have hrun := run_copy_row (P := Try.prog) w 33 33 3 5 wb (2 + pn * 128 + an) (128 - an) (128 - an) ⟨bA, oA, none⟩ t.size ac cur 83 (byteVals t) Try.underlying33 u8_size33 hg (by rw [byteVals_length]; exact (Nat.min_eq_left (by omega)).symm) (fun j v hj => by
      have hj2 := (List.getElem?_eq_some_iff.1 hj).1
      have e : (⟨bA, oA, none⟩ : Addr).add j = ⟨bA, oA + j, none⟩ := by unfold Addr.add; split <;> simp_all
      rw [e, hA j hj2, List.getD_eq_getElem?_getD, hj]
      rfl) (by rw [byteVals_length, hsz]; omega) (fun v hv => by
      obtain ⟨u, _, rfl⟩ := List.mem_map.1 hv
      rfl)
  rw [hlb] at hrun
  let L : List Value := cur.toList.take (2 + pn * 128 + an) ++ byteVals t ++ cur.toList.drop (2 + pn * 128 + an + t.size)
  have hL : L.length = 15482 := by
    simp only [L, List.length_append, List.length_take, List.length_drop, hlen, hlb]
    omega
  have hcl : ∀ j, j < 15482 → cur.toList[j]? = some (S.f j) := fun j hj => by
    rw [← hcell j hj, Array.getElem?_toList]
  have hLi : ∀ j, j < 15482 → L[j]? = if j < 2 + pn * 128 + an then some (S.f j) else if j < 2 + pn * 128 + an + t.size then (byteVals t)[j - (2 + pn * 128 + an)]? else some (S.f j) := fun j hj => by
    simp only [L, List.getElem?_append, List.length_append, List.length_take, hlen, hlb]
    have m1 : min (2 + pn * 128 + an) 15482 = 2 + pn * 128 + an := by omega
    rw [m1]
    by_cases c1 : j < 2 + pn * 128 + an
    · have c2 : j < 2 + pn * 128 + an + t.size := by omega
      simp only [if_pos c1, if_pos c2]
      rw [List.getElem?_take, if_pos c1, hcl j hj]
    · by_cases c2 : j < 2 + pn * 128 + an + t.size
      · simp only [if_neg c1, if_pos c2]
      · simp only [if_neg c1, if_neg c2]
        rw [List.getElem?_drop, show 2 + pn * 128 + an + t.size + (j - (2 + pn * 128 + an + t.size)) = j by omega, hcl j hj]
  refine ⟨L.toArray, fun j => L.getD j undef, hrun, ⟨L.toArray, setRow_heap w wb cur _ 83 (0, 0) hg, by simpa using hL, fun i hi => ?_⟩, fun i hi => ?_, fun i hi hout => ?_⟩
  · rw [List.getElem?_toArray]
    show L[i]? = some (L.getD i undef)
    rw [List.getD_eq_getElem?_getD, List.getElem?_eq_getElem (by rw [hL]; exact hi)]
    rfl
  · have hpg : ∀ j, j < 128 → (byteVals (W.page pn))[j]? = some (S.f (2 + pn * 128 + j)) := fun j hj => h.page pn hp j hj
    have hpl : (byteVals (W.page pn)).length = 128 := by rw [byteVals_length, hz]
    have e1 : byteVals (layB (W.page pn) an t) = (byteVals (W.page pn)).take an ++ byteVals t ++ (byteVals (W.page pn)).drop (an + (byteVals t).length) := (lay_vals (by omega)).symm
    show _ = some (L.getD (2 + pn * 128 + i) undef)
    rw [List.getD_eq_getElem?_getD, e1]
    have hh := hLi (2 + pn * 128 + i) (by omega)
    have hgl : L[2 + pn * 128 + i]? = some (L[2 + pn * 128 + i]'(by rw [hL]; omega)) := List.getElem?_eq_getElem (by rw [hL]; omega)
    rw [hgl] at hh ⊢
    simp only [Option.getD_some]
    rw [hh]
    simp only [List.getElem?_append, List.length_append, List.length_take, hpl, hlb]
    have m1 : min an 128 = an := by omega
    rw [m1]
    by_cases c1 : i < an
    · rw [if_pos (by omega), if_pos c1, if_pos (by omega), List.getElem?_take, if_pos c1, hpg i hi]
    · by_cases c2 : i < an + t.size
      · rw [if_pos c2, if_neg c1, if_neg (by omega), if_pos (by omega), show 2 + pn * 128 + i - (2 + pn * 128 + an) = i - an by omega]
      · rw [if_neg c2, if_neg (by omega), if_neg (by omega), List.getElem?_drop, show an + t.size + (i - (an + t.size)) = i by omega, hpg i hi]
  · show L.getD i undef = _
    rw [List.getD_eq_getElem?_getD, hLi i hi]
    rcases hout with h1 | h1
    · rw [if_pos (by omega)]
      rfl
    · rw [if_neg (by omega), if_neg (by omega)]
      rfl
/-- A unit that no record told of, appended. -/
theorem RefAt.unitEnd {wx w8 : World} (h : RefAt w0 w wb S W) {n : Int} (hno : ∀ x ∈ S.lu, x.1 ≠ n) {b : Nat} (nx : New w wx) (hb : w.heap.size ≤ b) (hbx : wx.heap[b]? = some (.cells (runitCells n au0 (.slice none 0 0)) 88 (0, 0))) {uv : Value} (huv : S.uv = uv) {g k : Nat}
    (own : w8.ownsRow 0 85 1 (.slice (some ⟨g, 0, none⟩) (S.lu.length + 1) k) (S.lu.length + 1) (ptrsOf S.lu ++ [.pointer (some ⟨b, 0, none⟩)])) (grow : wx.grownBy w8 uv.ownBlock) (blk : uv.ownBlock = some g ∨ g = wx.heap.size) :
    RefAt w0 (w8.setCell ⟨wb, 1, none⟩ (.slice (some ⟨g, 0, none⟩) (S.lu.length + 1) k)) wb { S with f := upd S.f 1 (.slice (some ⟨g, 0, none⟩) (S.lu.length + 1) k), uv := .slice (some ⟨g, 0, none⟩) (S.lu.length + 1) k, lu := S.lu ++ [(n, b, .slice none 0 0)] } { W with unit := fun m => if m = n then ⟨0, [], ByteArray.empty, true⟩ else W.unit m } ∧
      Turn (fun k => k = wb ∨ uv.ownBlock = some k) w (w8.setCell ⟨wb, 1, none⟩ (.slice (some ⟨g, 0, none⟩) (S.lu.length + 1) k)) := by
  subst huv
  obtain ⟨cb, hcb⟩ := h.base
  have hne : S.uv.ownBlock ≠ some wb := fun e => by
    obtain ⟨c, hc, _⟩ := own_cells h.units.row e
    exact absurd (kind_cells hc hcb).2 (by decide)
  have t8 : Turn (fun k => S.uv.ownBlock = some k) w w8 := (Turn.of_new nx).grown grow (fun k _ hk => hk)
  have hlt := h.lt
  have hsz := nx.size
  have hgw : g ≠ wb := fun e => by
    rcases blk with h1 | h1
    · exact hne (e ▸ h1)
    · omega
  have hown : ∀ k, S.uv.ownBlock = some k → k < w.heap.size := fun k hk => by
    obtain ⟨c, hc, _⟩ := own_cells h.units.row hk
    exact (Array.getElem?_eq_some_iff.1 hc).1
  have t9 : Turn (fun k => k = wb ∨ S.uv.ownBlock = some k) w (w8.setCell ⟨wb, 1, none⟩ (.slice (some ⟨g, 0, none⟩) (S.lu.length + 1) k)) := (t8.mono fun k _ hk => .inr hk).trans ((turn_cell w8 wb 1 _).mono fun k _ hk => .inl hk)
  have b9 : (w8.setCell ⟨wb, 1, none⟩ (.slice (some ⟨g, 0, none⟩) (S.lu.length + 1) k)).heap[b]? = some (.cells (runitCells n au0 (.slice none 0 0)) 88 (0, 0)) :=
    (Below.heap_setCell _ _ _ _ (fun e => by have e : b = wb := e; omega)).trans ((grow.block b (Array.getElem?_eq_some_iff.1 hbx).1 (fun e => by have := hown b e.symm; omega)).trans hbx)
  refine ⟨h.addUnit t9 (fun k hk => hk) ((h.raw.turn t8 hne).set 1 _) hno hb (u' := ⟨0, [], ByteArray.empty, true⟩) b9 rfl rfl ?_ (fun k hk => ?_), t9⟩
  · exact own_turn own (turn_cell w8 wb 1 _) (fun k hk e => by
      simp [Value.ownBlock] at hk
      exact hgw (hk.trans e))
  · simp [Value.ownBlock] at hk
    subst hk
    rcases blk with h1 | h1
    · exact .inl h1
    · right
      omega
theorem infoPtr : (Try.prog.info? 85).map (fun i => (i.zero, i.size, i.bytes)) = some (some (.pointer none), 1, 8) := by kernel_rfl
set_option maxRecDepth 10000 in
/-- append(l, p), at the list of a region's operations. -/
theorem app_ptr {ops : Array Oper} {rest : List Oper} {o : Oper} {a : Act} {w : World} {Q : Exit → Act → World → Prop} (hgd : o.guard = none) (sl x : Operand)
    (ho : o.op = .call { callee := .builtin .append, args := #[sl, x], argTypes := #[79, 79] })
    (v : Value) (n : Nat) (xs : List Value) (hs : a.eval sl = v) (base : Nat) (hown : w.ownsRow base 85 1 v n xs) (hbase : base ≤ w.heap.size) (k : Nat) (u : Value) (h1 : u.oneCell' = true) (hx : a.eval x = .slice (some ⟨k, 0, none⟩) 1 1)
    (hc : w.cell? ⟨k, 0, none⟩ = some u) (hb : n ≤ 1000000)
    (h : ∀ g cap w', w'.ownsRow base 85 1 (.slice (some ⟨g, 0, none⟩) (n + 1) cap) (n + 1) (xs ++ [u]) → w.grownBy w' v.ownBlock → (v.ownBlock = some g ∨ g = w.heap.size) → wpList Try.prog ops Q rest (a.put o.dst (.slice (some ⟨g, 0, none⟩) (n + 1) cap)) w') : wpList Try.prog ops Q (o :: rest) a w := by
  obtain ⟨i0, hi, hz0, hz1, hz2⟩ := info_parts infoPtr
  refine wpList_append_lies w hgd sl x 79 ho base 85 i0 _ 1 8 Try.underlying79 hi hz0 hz1 hz2 rfl (by decide) v n xs hs hown ⟨k, 0, none⟩ 1 1 [u] hx rfl (fun j y hj => ?_) (fun y hy => by simp at hy; rw [hy]; exact h1) (by omega) (by unfold maxLen; omega) (by omega) hbase _ rfl fun g cap w' h1 h2 h3 _ => h g cap w' h1 h2 h3
  have e : (⟨k, 0, none⟩ : Addr).add j = ⟨k, j, none⟩ := by unfold Addr.add; split <;> simp_all
  cases j with
  | zero => simp at hj; rw [e, hc, hj]
  | succ j => simp at hj
end Go.Proofs.Ytmchbciofdokfaa

namespace Go.Proofs.Ytmchbciofdokfaa
open Go.RowKit
set_option linter.unusedSimpArgs false
set_option linter.unusedVariables false

def RAddIs (w0 : Base) (wb : Nat) (S : RSh) (W : PW) (r : Rec) (e : Ending) (w' : World) : Prop := e = .returned (.tuple #[]) ∧ ∃ S', RefAt w0 w' wb S' (next W r) ∧ S'.lu.length ≤ S.lu.length + 1
theorem next_note {W : PW} {r : Rec} (h : r.kind = 6 ∨ r.kind = 7) : (next W r).unit = W.unit := by
  funext n
  show (if n = r.unit then touch (W.unit n) r (W.recs.length + 1) else W.unit n) = W.unit n
  split
  · exact touch_note h
  · rfl
theorem next_unit (W : PW) (r : Rec) {u' : AU} (h : touch (W.unit r.unit) r (W.recs.length + 1) = u') : (next W r).unit = fun m => if m = r.unit then u' else (if m = r.unit then (⟨(W.unit m).st, (W.unit m).left, (W.unit m).text, true⟩ : AU) else W.unit m) := by
  funext n
  show (if n = r.unit then touch (W.unit n) r (W.recs.length + 1) else W.unit n) = _
  by_cases e : n = r.unit
  · rw [if_pos e, if_pos e, e, h]
  · rw [if_neg e, if_neg e, if_neg e]
set_option maxRecDepth 100000 in
set_option maxHeartbeats 8000000 in
theorem radd_any (w0 : Base) (wb : Nat) (S : RSh) (W : PW) (r : Rec) (bv av uv : Value) (w : World) (h : RefAt w0 w wb S W) (hr : RecAt w r bv av uv) (hif : RecIf w0 r bv av uv) (haf : AfterAt w0 w av r.after)
    (hp : lays r = true → placeB r = true) (hk : 1 ≤ r.kind ∧ r.kind ≤ 7) (h2 : r.kind = 2 → (W.unit r.unit).left ≠ []) (hz : ∀ p, (W.page p).size = 128) (hrl : W.recs.length ≤ 100000) (hlf : ∀ n, (W.unit n).left.length ≤ 100000) (hll : S.lu.length ≤ 100000) :
    Calls Try.prog 41 #[.pointer (some ⟨wb, 0, none⟩), .agg (recCells r bv av uv)] w (RAddIs w0 wb S W r) := by
  obtain ⟨⟨bp, bc, rfl, -, -, -⟩, ⟨ap, ac, rfl, -, -, -⟩, ⟨up, uc, rfl, -, -, -⟩⟩ := hr
  have na : New w (w.alloc (.cells (recCells r (.slice bp r.before.size bc) (.slice ap r.after.size ac) (.slice up r.units.length uc)) 36)) := (New.refl w).alloc _ _
  have HQ := hid (alloc_block w (.cells (recCells r (.slice bp r.before.size bc) (.slice ap r.after.size ac) (.slice up r.units.length uc)) 36))
  have H1 := hid (h.newer na)
  have AF1 := hid (haf.new na)
  have HIF := hid hif
  have HP := hid hp
  have HK := hid hk
  have HK2 := hid h2
  have HZ := hid hz
  have HLF := hid hlf
  have HRVL : Hid (∀ k, S.rv.ownBlock = some k → k < w.heap.size) := hid (fun k hk => by
    obtain ⟨xs, hr1, _⟩ := h.recs
    obtain ⟨c, hc, _⟩ := own_cells hr1 hk
    exact (Array.getElem?_eq_some_iff.1 hc).1)
  have HWQ : Hid (wb < w.heap.size) := hid h.lt
  clear h hif haf hp hk h2 hz hlf na
  go_enter Try.func41, Try.ntmps41
  go_wp2_with fail
  generalize hw1 : w.alloc (.cells (recCells r (.slice bp r.before.size bc) (.slice ap r.after.size ac) (.slice up r.units.length uc)) 36) = w1 at *
  obtain ⟨q, hq0⟩ : ∃ q, w.heap.size = q := ⟨_, rfl⟩
  rw [hq0] at HQ HRVL HWQ ⊢
  clear hw1 hq0
  obtain ⟨pr, cr, hrv⟩ := H1.out.rowR
  obtain ⟨xs, hro, hrc⟩ := H1.out.recs
  have HRV := hid hrv
  have HRC := hid hrc
  have HRO : Hid (w1.ownsRow 0 36 10 (.slice pr W.recs.length cr) W.recs.length xs) := hid (by rw [← hrv]; exact hro)
  have c0 : w1.cell? ⟨wb, 0, none⟩ = some (.slice pr W.recs.length cr) := by rw [← hrv]; exact H1.out.cell0
  have z0 : w1.frozen? ⟨wb, 0, none⟩ = false := H1.out.frozen 0
  have hwlt := H1.out.lt
  have hqlt := (Array.getElem?_eq_some_iff.1 HQ.out).1
  clear hrv hro hrc
  go_upto_region 1 with (fail)
  go_cut [] from 6 to 120 (fun wx => ∃ S1, Hid (RefAt w0 wx wb S1 { W with recs := W.recs ++ [r] }) ∧ Hid (wx.heap[q]? = some (.cells (recCells r (.slice bp r.before.size bc) (.slice ap r.after.size ac) (.slice up r.units.length uc)) 36 (0, 0))) ∧ Hid (AfterAt w0 wx (.slice ap r.after.size ac) r.after) ∧ S1.lu = S.lu)
  case first =>
    have NX := hid (Below.alloc (New.refl w1) (Nat.le_refl _) (.cells (recCells r (.slice bp r.before.size bc) (.slice ap r.after.size ac) (.slice up r.units.length uc)) 36)).drew
    have HBX : Hid (((w1.alloc (.cells (recCells r (.slice bp r.before.size bc) (.slice ap r.after.size ac) (.slice up r.units.length uc)) 36)).drew).heap[w1.heap.size]? = some (.cells (recCells r (.slice bp r.before.size bc) (.slice ap r.after.size ac) (.slice up r.units.length uc)) 36 (0, 0))) := hid (alloc_block w1 _)
    have HOW : Hid ((Value.slice pr W.recs.length cr).ownBlock ≠ some wb) := hid (fun e => by
      obtain ⟨c, hc, _⟩ := own_cells HRO.out e
      obtain ⟨cb, hcb⟩ := H1.out.base
      exact absurd (kind_cells hc hcb).2 (by decide))
    obtain ⟨mq0, mq1, mq2, mq3, mq4, mq5, mq6, mq7, mq8, mq9⟩ := rec_box HQ.out
    have HRL2 : Hid (W.recs.length ≤ 1000000) := hid (by omega)
    have E8 : Hid (((w1.alloc (.cells (recCells r (.slice bp r.before.size bc) (.slice ap r.after.size ac) (.slice up r.units.length uc)) 36)).drew).cell? ⟨wb, 0, none⟩ = some (.slice pr W.recs.length cr)) := hid (((bcell NX.out).1 wb 0 hwlt).trans c0)
    have F8 : Hid (((w1.alloc (.cells (recCells r (.slice bp r.before.size bc) (.slice ap r.after.size ac) (.slice up r.units.length uc)) 36)).drew).frozen? ⟨wb, 0, none⟩ = false) := hid (((bcell NX.out).2 wb 0 hwlt).trans z0)
    have L8 : Hid (wb < ((w1.alloc (.cells (recCells r (.slice bp r.before.size bc) (.slice ap r.after.size ac) (.slice up r.units.length uc)) 36)).drew).heap.size) := hid (Nat.lt_of_lt_of_le hwlt NX.out.size)
    go_region_law (first
      | (refine step_rec rfl _ _ rfl (.slice pr W.recs.length cr) W.recs.length xs rfl 0 (own_old HRO.out NX.out) (Nat.zero_le _) w1.heap.size r bp ap up _ bc _ ac _ uc rfl (cells_of HBX.out) HRL2.out ?_; intro g8 k8 w8 own8 grow8 blk8; have c8 := (grow8.cell_far ⟨wb, 0, none⟩ L8.out (fun e => HOW.out e.symm)).trans E8.out; have z8 := (grow8.frozen_far ⟨wb, 0, none⟩ L8.out (fun e => HOW.out e.symm)).trans F8.out))
    all_goals
      obtain ⟨hx8, ht8⟩ := H1.out.recsEnd HRV.out HIF.out HRC.out NX.out own8 grow8 blk8
      have HX8 := hid hx8
      have HT8 := hid ht8
      clear own8 grow8 blk8 c8 z8 hx8 ht8
      go_wp2_with fail
      go_meet
      exact ⟨_, HX8, hid (block_turn HQ.out HT8.out (fun e => e.elim (fun e => by have := HWQ.out; omega) (fun e => by have := HRVL.out q (by rw [HRV.out]; exact e); omega))), hid (AF1.out.turn HT8.out (fun k hk c fr e => by rcases turn_wb H1.out HRV.out k hk _ _ _ e with h | h <;> exact absurd h (by decide))), rfl⟩
  case rest =>
    obtain ⟨S1, H2, Q2, AF2, HS1⟩ := hcut
    have HS1' := hid HS1
    clear HS1 c0 z0 hwlt hqlt HRC HRO HRV H1 HQ AF1
    obtain ⟨p1, c1, hrv1⟩ := H2.out.rowR
    have hl1 : ({ W with recs := W.recs ++ [r] } : PW).recs.length = W.recs.length + 1 := by show (W.recs ++ [r]).length = _; rw [List.length_append, List.length_singleton]
    rw [hl1] at hrv1
    have d0 : wc.cell? ⟨wb, 0, none⟩ = some (.slice p1 (W.recs.length + 1) c1) := by rw [← hrv1]; exact H2.out.cell0
    obtain ⟨mq0, mq1, mq2, mq3, mq4, mq5, mq6, mq7, mq8, mq9⟩ := rec_box Q2.out
    have hqlt := (Array.getElem?_eq_some_iff.1 Q2.out).1
    clear hrv1 hl1
    have hlk : (lays r = true ∧ (r.kind == 1) = true) ∨ (lays r = true ∧ (r.kind == 1) = false ∧ (r.kind == 2) = true) ∨ (lays r = false ∧ (r.kind == 1) = false ∧ (r.kind == 2) = false) := by
      unfold lays
      by_cases e : r.kind = 1
      · exact .inl ⟨by rw [e]; rfl, beq_iff_eq.2 e⟩
      · by_cases e2 : r.kind = 2
        · exact .inr (.inl ⟨by rw [e2]; rfl, beq_eq_false_iff_ne.2 e, beq_iff_eq.2 e2⟩)
        · exact .inr (.inr ⟨by rw [decide_eq_false e, decide_eq_false e2]; rfl, beq_eq_false_iff_ne.2 e, beq_eq_false_iff_ne.2 e2⟩)
    go_upto_region 3 with (fail)
    go_cut [28] from 6 to 120 (fun s28 wx => s28 = .bool (lays r) ∧ wx = wc)
    case first =>
      rcases hlk with ⟨e, t1⟩ | ⟨e, t1, t2⟩ | ⟨e, t1, t2⟩
      all_goals
        have HE := hid e
        clear e
        go_wp2_with fail
        go_meet
        exact ⟨by rw [HE.out], rfl⟩
    case rest =>
     obtain ⟨rfl, rfl⟩ := hcut
     clear hlk
     obtain ⟨LB, hLB⟩ : ∃ LB, lays r = LB := ⟨_, rfl⟩
     rw [hLB]
     have HLB := hid hLB
     clear hLB
     go_upto_if 28 with (fail)
     go_cut [] from 6 to 120 (fun wx => ∃ S2, Hid (RefAt w0 wx wb S2 { W with recs := W.recs ++ [r], page := (next W r).page, stamp := (next W r).stamp }) ∧ Hid (wx.heap[q]? = some (.cells (recCells r (.slice bp r.before.size bc) (.slice ap r.after.size ac) (.slice up r.units.length uc)) 36 (0, 0))) ∧ S2.lu = S.lu)
     case first =>
       cases LB
       case true =>
         have hly := HLB.out
         have HPL := hid (HP.out hly)
         obtain ⟨b0, b1, b2, b3, b4, b5⟩ := place_bounds HPL.out
         obtain ⟨pn, hpn, hpn2⟩ : ∃ n : Nat, r.page = (n : Int) ∧ n < 120 := ⟨r.page.toNat, by omega, by omega⟩
         obtain ⟨an, han, han2⟩ : ∃ n : Nat, r.at_ = (n : Int) ∧ n + r.after.size ≤ 128 := ⟨r.at_.toNat, by omega, by omega⟩
         have HPN := hid hpn
         have HAN := hid han
         have HLY := hid hly
         obtain ⟨pA, cA, eA, hA1, hA2, hA3⟩ := AF2.out.bytes H2.out.new
         injection eA with eA1 _ eA3
         subst eA1 eA3
         obtain ⟨bA, oA, eA4, hbA, hcA⟩ := hA3 (by omega)
         subst eA4
         have H2d := hid (H2.out.newer (New.refl wc).drew)
         obtain ⟨cs, f', hcp, hraw, hpg, hot⟩ := ref_copy H2d.out (pn := pn) (an := an) hpn2 (HZ.out pn) han2 (bA := bA) (oA := oA) (ac := ac) (fun i hi => ((bcell (New.refl wc).drew).1 bA (oA + i) hbA).trans (hcA i hi))
         have HRAW := hid hraw
         have HPG := hid hpg
         have HOT := hid hot
         have Qd : Hid (wc.drew.heap[q]? = _) := hid Q2.out
         obtain ⟨n0, n1, n2, n3, n4, n5, n6, n7, n8, n9⟩ := rec_box Qd.out
         rw [hpn] at n2
         rw [han] at n3
         have k0 : (0 : Int) ≤ (an : Int) := by omega
         have k2 : (an : Int) ≤ 128 := by omega
         have k4 : ¬ 128 = an := by omega
         have k5 : (pn : Int) < 120 := by omega
         have k6 : (0 : Int) ≤ (pn : Int) := by omega
         have hqwb : q ≠ wb := by
           obtain ⟨cb, hcb⟩ := H2.out.base
           exact kind_ne Q2.out hcb (by decide)
         have HQW := hid hqwb
         clear hly hA1 hA2 hA3 hcA hraw hpg hot b0 b1 b2 b3 b4 b5 hqwb hpn han
         go_wp2_with fail
         go_region
         have Q3 := hid (block_turn Qd.out (turn_row wc.drew wb cs) (fun e => HQW.out e))
         have T3 := hid ((Turn.of_new (S := (· = wb)) (New.refl wc).drew).trans (turn_row wc.drew wb cs))
         clear n0 n1 n2 n3 n4 n5 n6 n7 n8 n9 hcp d0 mq0 mq1 mq2 mq3 mq4 mq5 mq6 mq7 mq8 mq9 hqlt k4
         generalize wc.drew.setRow wb cs = w3 at *
         have Q3d : Hid (w3.drew.heap[q]? = _) := hid Q3.out
         have m2 : w3.drew.cell? ⟨q, 2, none⟩ = some (.int .i64 (pn : Int)) := by rw [← HPN.out]; exact cells_of Q3d.out 2
         have s1 : w3.drew.cell? ⟨wb, 15362 + pn, none⟩ = some (f' (15362 + pn)) := HRAW.out.cell (15362 + pn) (by omega)
         have s2 : w3.drew.frozen? ⟨wb, 15362 + pn, none⟩ = false := HRAW.out.frozen (15362 + pn)
         go_wp2_with fail
         go_region
         have RW : Hid (Raw (w3.drew.setCell ⟨wb, 15362 + pn, none⟩ (.int .i64 ((W.recs.length : Int) + 1))) wb 83 15482 (upd f' (15362 + pn) (.int .i64 ((W.recs.length : Int) + 1)))) := hid (Raw.set (w := w3.drew) HRAW.out _ _)
         have T4 : Hid (Turn (· = wb) wc (w3.drew.setCell ⟨wb, 15362 + pn, none⟩ (.int .i64 ((W.recs.length : Int) + 1)))) := hid (T3.out.drew.trans (turn_cell w3.drew wb _ _))
         have Q4 := hid (block_turn Q3d.out (turn_cell w3.drew wb (15362 + pn) (.int .i64 ((W.recs.length : Int) + 1))) (fun e => HQW.out e))
         clear m2 s1 s2
         go_wp2_with fail
         go_meet
         have hset := H2.out.setPage (n := pn) (p := layB (W.page pn) an r.after) (st := W.recs.length + 1) hpn2 (by rw [layB_size (by rw [HZ.out]; exact han2)]; exact HZ.out pn) T4.out RW.out (fun i hi => by rw [upd_other _ _ (by omega)]; exact HPG.out i hi) (by rw [upd_same]; rfl) (fun i hi ho hne => by rw [upd_other _ _ hne]; exact HOT.out i hi ho)
         have e1 : r.page.toNat = pn := by have := HPN.out; omega
         have e2 : r.at_.toNat = an := by have := HAN.out; omega
         exact ⟨_, hid (hset.congr rfl (by
           funext p
           show (if lays r = true ∧ p = r.page.toNat then layB (W.page p) r.at_.toNat r.after else W.page p) = (if p = pn then layB (W.page pn) an r.after else W.page p)
           rw [e1, e2]
           by_cases e : p = pn
           · rw [if_pos ⟨HLY.out, e⟩, if_pos e, e]
           · rw [if_neg (fun h => e h.2), if_neg e]) (by
           funext p
           show (if lays r = true ∧ p = r.page.toNat then W.recs.length + 1 else W.stamp p) = (if p = pn then W.recs.length + 1 else W.stamp p)
           rw [e1]
           by_cases e : p = pn
           · rw [if_pos ⟨HLY.out, e⟩, if_pos e]
           · rw [if_neg (fun h => e h.2), if_neg e]) rfl), Q4, HS1'.out⟩
       case false =>
         have HNL : Hid (¬ lays r = true) := hid (by rw [HLB.out]; decide)
         go_wp2_with fail
         go_meet
         case rel => exact ⟨S1, hid (H2.out.congr rfl (by
             funext p
             show (if lays r = true ∧ p = r.page.toNat then layB (W.page p) r.at_.toNat r.after else W.page p) = W.page p
             rw [if_neg (fun h => HNL.out h.1)]) (by
             funext p
             show (if lays r = true ∧ p = r.page.toNat then W.recs.length + 1 else W.stamp p) = W.stamp p
             rw [if_neg (fun h => HNL.out h.1)]) rfl), Q2, HS1'.out⟩
     case rest =>
       obtain ⟨S2, H3, Q3, hs2⟩ := hcut
       have HS2 := hid hs2
       clear hs2 d0 mq0 mq1 mq2 mq3 mq4 mq5 mq6 mq7 mq8 mq9 hqlt H2 Q2 AF2 HS1'
       obtain ⟨mq0, mq1, mq2, mq3, mq4, mq5, mq6, mq7, mq8, mq9⟩ := rec_box Q3.out
       have hqlt := (Array.getElem?_eq_some_iff.1 Q3.out).1
       by_cases hk6 : 6 ≤ r.kind
       · have t6 : decide (6 ≤ r.kind) = true := by simpa using hk6
         have HN : Hid (r.kind = 6 ∨ r.kind = 7) := hid (by have := HK.out; omega)
         clear hk6
         go_wp2
         go_end0
         exact ⟨rfl, S2, H3.out.congr rfl rfl rfl (next_note HN.out), by rw [HS2.out]; omega⟩
       have t6 : decide (6 ≤ r.kind) = false := by simpa using hk6
       have HK6 : Hid (1 ≤ r.kind ∧ r.kind ≤ 5) := hid (by have := HK.out; omega)
       clear hk6
       go_wp2_with fail
       refine (find_any w0 wb S2 _ r.unit _ H3.out).mono ?_
       intro e w3 hfind
       have HLU2 : Hid (S2.lu.length ≤ 100000) := hid (by rw [HS2.out]; exact hll)
       obtain ⟨po, rfl, rfl, hpo⟩ : ∃ po, e = .returned (.pointer po) ∧ wc = w3 ∧ ((po = none ∧ ∀ x ∈ S2.lu, x.1 ≠ r.unit) ∨ (∃ x ∈ S2.lu, x.1 = r.unit ∧ po = some ⟨x.2.1, 0, none⟩)) := by
         rcases hfind with ⟨h1, h2, h3⟩ | ⟨x, h1, h2, h3, h4⟩
         · exact ⟨none, h2, h3, .inl ⟨rfl, h1⟩⟩
         · exact ⟨_, h3, h4, .inr ⟨x, h1, h2, rfl⟩⟩
       clear hfind
       go_upto_region 8 with (fail)
       go_cut [56] from 6 to 120 (fun s56 wx => s56 = .bool po.isNone ∧ wx = wc)
       case first =>
         cases po
         all_goals
           go_wp2_with fail
           go_meet
           exact ⟨rfl, rfl⟩
       case rest =>
        obtain ⟨rfl, rfl⟩ := hcut
        have HPO := hid hpo
        obtain ⟨NB, hNB⟩ : ∃ NB, po.isNone = NB := ⟨_, rfl⟩
        rw [hNB]
        have HNB := hid hNB
        clear hpo hNB
        go_upto_if 56 with (fail)
        go_cut [5] from 6 to 120 (fun s5 wx => ∃ S3 b v, s5 = .pointer (some ⟨b, 0, none⟩) ∧ Hid (RefAt w0 wx wb S3 { W with recs := W.recs ++ [r], page := (next W r).page, stamp := (next W r).stamp, unit := fun m => if m = r.unit then ⟨(W.unit m).st, (W.unit m).left, (W.unit m).text, true⟩ else W.unit m }) ∧ Hid (wx.heap[q]? = some (.cells (recCells r (.slice bp r.before.size bc) (.slice ap r.after.size ac) (.slice up r.units.length uc)) 36 (0, 0))) ∧ Hid ((r.unit, b, v) ∈ S3.lu) ∧ Hid (S3.lu.length ≤ S.lu.length + 1))
        case first =>
          obtain ⟨pu, cu, hu⟩ := H3.out.rowU
          have u1 : wc.cell? ⟨wb, 1, none⟩ = some (.slice pu S2.lu.length cu) := by rw [← hu]; exact H3.out.cell1
          have uz : wc.frozen? ⟨wb, 1, none⟩ = false := H3.out.frozen 1
          have HU := hid hu
          have HUR : Hid (wc.ownsRow 0 85 1 (.slice pu S2.lu.length cu) S2.lu.length (ptrsOf S2.lu)) := hid (by rw [← hu]; exact H3.out.units.row)
          have hwl := H3.out.lt
          clear hu
          cases NB
          case true =>
            have e0 : po = none := by
              have := HNB.out
              cases po
              · rfl
              · cases this
            have HNO : Hid (∀ x ∈ S2.lu, x.1 ≠ r.unit) := hid (by
              rcases HPO.out with ⟨_, h⟩ | ⟨x, _, _, h⟩
              · exact h
              · rw [e0] at h; cases h)
            subst e0
            have NX : Hid (New wc ((wc.alloc (.cells #[.int .i64 r.unit, .int .i64 0, .slice none 0 0, .string ⟨#[]⟩] 88)).alloc (.cells #[.pointer (some ⟨wc.heap.size, 0, none⟩)] 85))) := hid (((New.refl wc).alloc _ _).alloc _ _)
            have sz1 : (wc.alloc (.cells #[.int .i64 r.unit, .int .i64 0, .slice none 0 0, .string ⟨#[]⟩] 88)).heap.size = wc.heap.size + 1 := by simp
            have BB : Hid (((wc.alloc (.cells #[.int .i64 r.unit, .int .i64 0, .slice none 0 0, .string ⟨#[]⟩] 88)).alloc (.cells #[.pointer (some ⟨wc.heap.size, 0, none⟩)] 85)).heap[wc.heap.size]? = some (.cells (runitCells r.unit au0 (.slice none 0 0)) 88 (0, 0))) := hid ((Below.block ((New.refl (wc.alloc (.cells #[.int .i64 r.unit, .int .i64 0, .slice none 0 0, .string ⟨#[]⟩] 88))).alloc _ _) wc.heap.size (by rw [sz1]; omega)).trans (alloc_block wc _))
            have PB : Hid (((wc.alloc (.cells #[.int .i64 r.unit, .int .i64 0, .slice none 0 0, .string ⟨#[]⟩] 88)).alloc (.cells #[.pointer (some ⟨wc.heap.size, 0, none⟩)] 85)).heap[wc.heap.size + 1]? = some (.cells #[.pointer (some ⟨wc.heap.size, 0, none⟩)] 85 (0, 0))) := hid (by have h := alloc_block (wc.alloc (.cells #[.int .i64 r.unit, .int .i64 0, .slice none 0 0, .string ⟨#[]⟩] 88)) (.cells #[.pointer (some ⟨wc.heap.size, 0, none⟩)] 85); rw [sz1] at h; exact h)
            have HOW : Hid ((Value.slice pu S2.lu.length cu).ownBlock ≠ some wb) := hid (fun e => by
              obtain ⟨c, hc, _⟩ := own_cells HUR.out e
              obtain ⟨cb, hcb⟩ := H3.out.base
              exact absurd (kind_cells hc hcb).2 (by decide))
            have E8 := hid (((bcell NX.out).1 wb 1 hwl).trans u1)
            have F8 := hid (((bcell NX.out).2 wb 1 hwl).trans uz)
            have L8 := hid (Nat.lt_of_lt_of_le hwl NX.out.size)
            have HLL2 : Hid (S2.lu.length ≤ 1000000) := hid (by have := HLU2.out; omega)
            clear sz1
            go_wp2_with (at_builtin; refine app_ptr rfl _ _ rfl (.slice pu S2.lu.length cu) S2.lu.length (ptrsOf S2.lu) rfl 0 (own_old HUR.out NX.out) (Nat.zero_le _) (wc.heap.size + 1) (.pointer (some ⟨wc.heap.size, 0, none⟩)) rfl rfl (cells_of PB.out 0) HLL2.out ?_)
            intro g8 k8 w8 own8 grow8 blk8
            have c8 := (grow8.cell_far ⟨wb, 1, none⟩ L8.out (fun e => HOW.out e.symm)).trans E8.out
            have z8 := (grow8.frozen_far ⟨wb, 1, none⟩ L8.out (fun e => HOW.out e.symm)).trans F8.out
            obtain ⟨hx8, ht8⟩ := H3.out.unitEnd HNO.out NX.out (Nat.le_refl _) BB.out HU.out own8 grow8 (by simpa using blk8)
            have HX8 := hid hx8
            have HT8 := hid ht8
            clear own8 grow8 blk8 hx8 ht8
            go_wp2_with fail
            go_meet
            case rel =>
              refine ⟨_, wc.heap.size, .slice none 0 0, rfl, hid (HX8.out.congr rfl rfl rfl ?_), hid (block_turn Q3.out HT8.out (fun e => e.elim (fun e => by obtain ⟨cb, hcb⟩ := H3.out.base; exact kind_ne Q3.out hcb (by decide) e) (fun e => by obtain ⟨c, hc, _⟩ := own_cells HUR.out e; exact absurd (kind_cells Q3.out hc).2 (by decide)))), hid (List.mem_append.2 (.inr (List.mem_singleton.2 rfl))), hid (by show (S2.lu ++ _).length ≤ _; rw [List.length_append, HS2.out]; exact Nat.le_refl _)⟩
              funext m
              show (if m = r.unit then (⟨(W.unit m).st, (W.unit m).left, (W.unit m).text, true⟩ : AU) else W.unit m) = if m = r.unit then ⟨0, [], ByteArray.empty, true⟩ else W.unit m
              by_cases e : m = r.unit
              · rw [if_pos e, if_pos e, e]
                have h0 : W.unit r.unit = au0 := H3.out.units.none r.unit HNO.out
                rw [h0]
                rfl
              · rw [if_neg e, if_neg e]
          case false =>
            obtain ⟨⟨xn, b, v⟩, hx, hxn, e0⟩ : ∃ x ∈ S2.lu, x.1 = r.unit ∧ po = some ⟨x.2.1, 0, none⟩ := by
              rcases HPO.out with ⟨h, _⟩ | h
              · have := HNB.out
                rw [h] at this
                cases this
              · exact h
            obtain rfl : xn = r.unit := hxn
            subst e0
            have HX := hid hx
            clear hx
            go_wp2_with fail
            go_meet
            case rel =>
              refine ⟨S2, b, v, rfl, hid (H3.out.congr rfl rfl rfl ?_), Q3, HX, hid (by rw [HS2.out]; exact Nat.le_succ _)⟩
              funext m
              show (if m = r.unit then (⟨(W.unit m).st, (W.unit m).left, (W.unit m).text, true⟩ : AU) else W.unit m) = W.unit m
              by_cases e : m = r.unit
              · rw [if_pos e, e]
                have hs : (W.unit r.unit).seen = true := H3.out.units.seen _ HX.out
                cases hu : W.unit r.unit with
                | mk a b c d => rw [hu] at hs; simp only at hs; rw [hs]
              · rw [if_neg e]
        case rest =>
          obtain ⟨S3, b, v, rfl, H4, Q4, HX, HL3⟩ := hcut
          clear mq0 mq1 mq2 mq3 mq4 mq5 mq6 mq7 mq8 mq9 hqlt H3 Q3 HPO HNB HS2 t6
          obtain ⟨mq0, mq1, mq2, mq3, mq4, mq5, mq6, mq7, mq8, mq9⟩ := rec_box Q4.out
          have hqlt := (Array.getElem?_eq_some_iff.1 Q4.out).1
          obtain ⟨hb1, hb2⟩ := H4.out.units.unit _ HX.out
          simp only [if_true] at hb1 hb2
          have HB1 := hid hb1
          have HB2 := hid hb2
          obtain ⟨lp, lc, hlv⟩ := own_len hb2
          have HLV := hid hlv
          have uc1 : wc.cell? ⟨b, 1, none⟩ = some (.int .i64 (W.unit r.unit).st) := cells_of hb1 1
          have uc2 : wc.cell? ⟨b, 2, none⟩ = some (.slice lp (W.unit r.unit).left.length lc) := by rw [← hlv]; exact cells_of hb1 2
          have uc3 : wc.cell? ⟨b, 3, none⟩ = some (.string (W.unit r.unit).text) := cells_of hb1 3
          have uf1 : wc.frozen? ⟨b, 1, none⟩ = false := frozen_of hb1 1
          have uf2 : wc.frozen? ⟨b, 2, none⟩ = false := frozen_of hb1 2
          have uf3 : wc.frozen? ⟨b, 3, none⟩ = false := frozen_of hb1 3
          have hbl := (Array.getElem?_eq_some_iff.1 hb1).1
          have HVB : Hid (v.ownBlock ≠ some b) := hid (fun e => by
            obtain ⟨c, hc, _⟩ := own_cells HB2.out e
            exact absurd (kind_cells hc HB1.out).2 (by decide))
          have hqb : q ≠ b := kind_ne Q4.out hb1 (by decide)
          have hbq : b ≠ q := fun e => hqb e.symm
          clear hb1 hb2 hlv
          by_cases hk : r.kind = 1
          · have t1 : (r.kind == 1) = true := beq_iff_eq.2 hk
            have t2 : (r.kind == 2) = false := beq_eq_false_iff_ne.2 (by omega)
            have t3 : (r.kind == 3) = false := beq_eq_false_iff_ne.2 (by omega)
            have t4 : (r.kind == 4) = false := beq_eq_false_iff_ne.2 (by omega)
            have t5 : (r.kind == 5) = false := beq_eq_false_iff_ne.2 (by omega)
            have HKK := hid hk
            clear hk
            have HLB2 : Hid ((W.unit r.unit).left.length ≤ 1000000) := hid (by have := HLF.out r.unit; omega)
            have NX : Hid (New wc (wc.alloc (.cells #[.int .i64 ((W.recs.length : Int) + 1)] 3))) := hid ((New.refl wc).alloc _ _)
            have BX : Hid ((wc.alloc (.cells #[.int .i64 ((W.recs.length : Int) + 1)] 3)).heap[wc.heap.size]? = some (.cells #[.int .i64 ((W.recs.length : Int) + 1)] 3 (0, 0))) := hid (alloc_block wc _)
            have HOL : Hid (wc.ownsRow 0 3 1 (.slice lp (W.unit r.unit).left.length lc) (W.unit r.unit).left.length (natVals (W.unit r.unit).left)) := hid (by rw [← HLV.out]; exact HB2.out)
            have E8 := hid (((bcell NX.out).1 b 2 hbl).trans uc2)
            have F8 := hid (((bcell NX.out).2 b 2 hbl).trans uf2)
            have L8 := hid (Nat.lt_of_lt_of_le hbl NX.out.size)
            have HOW : Hid ((Value.slice lp (W.unit r.unit).left.length lc).ownBlock ≠ some b) := hid (by rw [← HLV.out]; exact HVB.out)
            go_wp2_with (at_builtin; refine app_num rfl _ _ rfl (.slice lp (W.unit r.unit).left.length lc) (W.unit r.unit).left.length (natVals (W.unit r.unit).left) rfl 0 (own_old HOL.out NX.out) (Nat.zero_le _) wc.heap.size ((W.recs.length : Int) + 1) rfl (cells_of BX.out 0) HLB2.out ?_)
            intro v8 w8 own8 grow8 blk8
            obtain ⟨p8, k8, rfl⟩ := own_len own8
            have c8 := (grow8.cell_far ⟨b, 2, none⟩ L8.out (fun e => HOW.out e.symm)).trans E8.out
            have z8 := (grow8.frozen_far ⟨b, 2, none⟩ L8.out (fun e => HOW.out e.symm)).trans F8.out
            have t8 : Turn (fun k => v.ownBlock = some k) wc w8 := (Turn.of_new NX.out).grown grow8 (fun k _ hk => by rw [HLV.out]; exact hk)
            have b8 := block_turn HB1.out t8 HVB.out
            have b9 := heap_setCell_same w8 b 2 _ 88 (.slice p8 ((W.unit r.unit).left.length + 1) k8) b8
            have hnb8 : (Value.slice p8 ((W.unit r.unit).left.length + 1) k8).ownBlock ≠ some b := fun e => by
              rcases blk8 with h1 | h1
              · exact HOW.out (h1 ▸ e)
              · rw [h1] at e
                injection e with e
                omega
            have hset := H4.out.setUnit HX.out (u' := ⟨(W.unit r.unit).st, (W.unit r.unit).left ++ [W.recs.length + 1], (W.unit r.unit).text, true⟩) (X := fun k => k = b ∨ v.ownBlock = some k) ((t8.mono fun k _ hk => .inr hk).trans ((turn_cell w8 b 2 (.slice p8 ((W.unit r.unit).left.length + 1) k8)).mono fun k _ hk => .inl hk)) (fun k hk => hk) (v' := .slice p8 ((W.unit r.unit).left.length + 1) k8) (by rw [b9]; rfl) (by
              have e3 : ((W.unit r.unit).left ++ [W.recs.length + 1]).length = (W.unit r.unit).left.length + 1 := by rw [List.length_append]; rfl
              have e4 : natVals ((W.unit r.unit).left ++ [W.recs.length + 1]) = natVals (W.unit r.unit).left ++ [.int .i64 ((W.recs.length : Int) + 1)] := by unfold natVals; rw [List.map_append]; rfl
              show World.ownsRow _ 0 3 1 _ ((W.unit r.unit).left ++ [W.recs.length + 1]).length (natVals ((W.unit r.unit).left ++ [W.recs.length + 1]))
              rw [e3, e4]
              exact own_turn own8 (turn_cell w8 b 2 _) (fun k hk e => hnb8 (e ▸ hk))) (fun k hk => by
              rcases blk8 with h1 | h1
              · left; rw [HLV.out]; exact h1 ▸ hk
              · right
                rw [h1] at hk
                injection hk with hk
                omega) rfl
            have HSET := hid (hset.congr (W' := next W r) rfl rfl rfl (next_unit W r (by unfold touch; rw [if_pos HKK.out])))
            clear own8 grow8 blk8 t8 b8 b9 hnb8 hset
            go_wp2
            go_end0
            exact ⟨rfl, _, HSET.out, by show (setU S3.lu _ _ _).length ≤ _; rw [setU_length]; exact HL3.out⟩
          have n1 := hk
          clear hk
          by_cases hk : r.kind = 2
          · have t1 : (r.kind == 1) = false := beq_eq_false_iff_ne.2 (by omega)
            have t2 : (r.kind == 2) = true := beq_iff_eq.2 hk
            have t3 : (r.kind == 3) = false := beq_eq_false_iff_ne.2 (by omega)
            have t4 : (r.kind == 4) = false := beq_eq_false_iff_ne.2 (by omega)
            have t5 : (r.kind == 5) = false := beq_eq_false_iff_ne.2 (by omega)
            have HKK := hid hk
            clear hk n1
            have hne := HK2.out HKK.out
            obtain ⟨z, hz⟩ : ∃ z, (W.unit r.unit).left.length = z := ⟨_, rfl⟩
            obtain ⟨zl, hzl⟩ : ∃ zl, z = zl + 1 := ⟨z - 1, by have := List.length_pos_iff.2 hne; omega⟩
            obtain ⟨gl, lcc, e0, yl, hpop, hcap, hmx⟩ := left_last (by have h := HB2.out; rwa [hz] at h) hz hzl
            have HLVE : Hid (lp = some ⟨gl, 0, none⟩ ∧ lc = lcc) := hid (by
              have h := HLV.out.symm.trans e0
              injection h with h1 _ h3
              exact ⟨h1, h3⟩)
            rw [HLVE.out.1, HLVE.out.2, hz] at uc2
            have HZZ := hid hz
            have HZL := hid hzl
            have HZ5 : Hid (z ≤ 1000000) := hid (by have := HLF.out r.unit; omega)
            have hzw : IntKind.i64.wrap ((z : Int) - 1) = (zl : Int) := by rw [HZL.out, Int.natCast_succ, Int.add_sub_cancel]; exact IntWalk.i64_in _ (by have := HZL.out; have := HZ5.out; omega)
            have hzc : (zl : Int) ≤ (lcc : Int) := by have := HZL.out; omega
            have hz00 : (0 : Int) ≤ (zl : Int) := by omega
            have HPOP := hid hpop
            have HE0 := hid e0
            have HGB : Hid (gl ≠ b) := hid (fun e => HVB.out (by rw [e0, ← e]; rfl))
            clear hz hzl e0 yl hpop hne
            go_wp2_with fail
            go_region
            have t9 : Turn (· = b) wc (wc.setCell ⟨b, 2, none⟩ (.slice (some ⟨gl, 0, none⟩) zl lcc)).drew := (turn_cell wc b 2 _).drew
            have b9 : (wc.setCell ⟨b, 2, none⟩ (.slice (some ⟨gl, 0, none⟩) zl lcc)).drew.heap[b]? = some (.cells (runitCells r.unit ⟨(W.unit r.unit).st, (W.unit r.unit).left.dropLast, (W.unit r.unit).text, true⟩ (.slice (some ⟨gl, 0, none⟩) zl lcc)) 88 (0, 0)) := by
              have e1 := heap_setCell_same wc b 2 _ 88 (.slice (some ⟨gl, 0, none⟩) zl lcc) HB1.out
              show (wc.setCell ⟨b, 2, none⟩ (.slice (some ⟨gl, 0, none⟩) zl lcc)).heap[b]? = _
              rw [e1]
              rfl
            have hset := H4.out.setUnit HX.out (u' := ⟨(W.unit r.unit).st, (W.unit r.unit).left.dropLast, (W.unit r.unit).text, true⟩) t9 (fun k hk => .inl hk) b9 (by
              show World.ownsRow _ 0 3 1 _ ((W.unit r.unit).left.dropLast).length (natVals (W.unit r.unit).left.dropLast)
              rw [List.length_dropLast, HZZ.out, HZL.out]
              exact own_turn HPOP.out t9 (fun k hk e => by
                simp [Value.ownBlock] at hk
                exact HGB.out (hk.trans e))) (fun k hk => .inl (by rw [HE0.out]; exact hk)) rfl
            have HSET := hid (hset.congr (W' := next W r) rfl rfl rfl (next_unit W r (by unfold touch; rw [if_neg (by rw [HKK.out]; decide), if_pos HKK.out])))
            clear t9 b9 hset hzw hzc hz00
            go_wp2
            go_end0
            exact ⟨rfl, _, HSET.out, by show (setU S3.lu _ _ _).length ≤ _; rw [setU_length]; exact HL3.out⟩
          have n2 := hk
          clear hk
          by_cases hk : r.kind = 3
          · have t1 : (r.kind == 1) = false := beq_eq_false_iff_ne.2 (by omega)
            have t2 : (r.kind == 2) = false := beq_eq_false_iff_ne.2 (by omega)
            have t3 : (r.kind == 3) = true := beq_iff_eq.2 hk
            have t4 : (r.kind == 4) = false := beq_eq_false_iff_ne.2 (by omega)
            have t5 : (r.kind == 5) = false := beq_eq_false_iff_ne.2 (by omega)
            have HKK := hid hk
            clear hk n1 n2
            have t9 : Turn (· = b) wc (wc.setCell ⟨b, 1, none⟩ (.int .i64 2)) := turn_cell wc b 1 _
            have b9 : (wc.setCell ⟨b, 1, none⟩ (.int .i64 2)).heap[b]? = some (.cells (runitCells r.unit ⟨2, (W.unit r.unit).left, (W.unit r.unit).text, true⟩ v) 88 (0, 0)) := by
              have e1 := heap_setCell_same wc b 1 _ 88 (.int .i64 2) HB1.out
              rw [e1]
              rfl
            have hset := H4.out.setUnit HX.out (u' := ⟨2, (W.unit r.unit).left, (W.unit r.unit).text, true⟩) t9 (fun k hk => .inl hk) b9 (own_turn HB2.out t9 (fun k hk e => HVB.out (e ▸ hk))) (fun k hk => .inl hk) rfl
            have HSET := hid (hset.congr (W' := next W r) rfl rfl rfl (next_unit W r (by unfold touch; simp [HKK.out])))
            clear t9 b9 hset
            go_wp2
            go_end0
            exact ⟨rfl, _, HSET.out, by show (setU S3.lu _ _ _).length ≤ _; rw [setU_length]; exact HL3.out⟩
          have n3 := hk
          clear hk
          by_cases hk : r.kind = 4
          · have t1 : (r.kind == 1) = false := beq_eq_false_iff_ne.2 (by omega)
            have t2 : (r.kind == 2) = false := beq_eq_false_iff_ne.2 (by omega)
            have t3 : (r.kind == 3) = false := beq_eq_false_iff_ne.2 (by omega)
            have t4 : (r.kind == 4) = true := beq_iff_eq.2 hk
            have t5 : (r.kind == 5) = false := beq_eq_false_iff_ne.2 (by omega)
            have HKK := hid hk
            clear hk n1 n2 n3
            have t9 : Turn (· = b) wc (wc.setCell ⟨b, 1, none⟩ (.int .i64 3)) := turn_cell wc b 1 _
            have b9 : (wc.setCell ⟨b, 1, none⟩ (.int .i64 3)).heap[b]? = some (.cells (runitCells r.unit ⟨3, (W.unit r.unit).left, (W.unit r.unit).text, true⟩ v) 88 (0, 0)) := by
              have e1 := heap_setCell_same wc b 1 _ 88 (.int .i64 3) HB1.out
              rw [e1]
              rfl
            have hset := H4.out.setUnit HX.out (u' := ⟨3, (W.unit r.unit).left, (W.unit r.unit).text, true⟩) t9 (fun k hk => .inl hk) b9 (own_turn HB2.out t9 (fun k hk e => HVB.out (e ▸ hk))) (fun k hk => .inl hk) rfl
            have HSET := hid (hset.congr (W' := next W r) rfl rfl rfl (next_unit W r (by unfold touch; simp [HKK.out])))
            clear t9 b9 hset
            go_wp2
            go_end0
            exact ⟨rfl, _, HSET.out, by show (setU S3.lu _ _ _).length ≤ _; rw [setU_length]; exact HL3.out⟩
          have hk : r.kind = 5 := by have := HK6.out; omega
          have t1 : (r.kind == 1) = false := beq_eq_false_iff_ne.2 (by omega)
          have t2 : (r.kind == 2) = false := beq_eq_false_iff_ne.2 (by omega)
          have t3 : (r.kind == 3) = false := beq_eq_false_iff_ne.2 (by omega)
          have t4 : (r.kind == 4) = false := beq_eq_false_iff_ne.2 (by omega)
          have t5 : (r.kind == 5) = true := beq_iff_eq.2 hk
          have HKK := hid hk
          clear hk n1 n2 n3
          go_wp2_with fail
          go_region
          have t9 : Turn (· = b) wc ((wc.setCell ⟨b, 1, none⟩ (.int .i64 1)).setCell ⟨b, 3, none⟩ (.string r.text)).drew := ((turn_cell wc b 1 _).trans (turn_cell _ b 3 _)).drew
          have b9 : ((wc.setCell ⟨b, 1, none⟩ (.int .i64 1)).setCell ⟨b, 3, none⟩ (.string r.text)).drew.heap[b]? = some (.cells (runitCells r.unit ⟨1, (W.unit r.unit).left, r.text, true⟩ v) 88 (0, 0)) := by
            have e1 := heap_setCell_same wc b 1 _ 88 (.int .i64 1) HB1.out
            have e2 := heap_setCell_same _ b 3 _ 88 (.string r.text) e1
            show ((wc.setCell ⟨b, 1, none⟩ (.int .i64 1)).setCell ⟨b, 3, none⟩ (.string r.text)).heap[b]? = _
            rw [e2]
            rfl
          have hset := H4.out.setUnit HX.out (u' := ⟨1, (W.unit r.unit).left, r.text, true⟩) t9 (fun k hk => .inl hk) b9 (own_turn HB2.out t9 (fun k hk e => HVB.out (e ▸ hk))) (fun k hk => .inl hk) rfl
          have HSET := hid (hset.congr (W' := next W r) rfl rfl rfl (next_unit W r (by unfold touch; simp [HKK.out])))
          clear t9 b9 hset
          go_wp2
          go_end0
          exact ⟨rfl, _, HSET.out, by show (setU S3.lu _ _ _).length ≤ _; rw [setU_length]; exact HL3.out⟩
end Go.Proofs.Ytmchbciofdokfaa

namespace Go.Proofs.Ytmchbciofdokfaa
open Go.RowKit
set_option linter.unusedSimpArgs false
set_option linter.unusedVariables false

def refCells : Array Value := ([Value.slice none 0 0, .slice none 0 0] ++ (List.replicate 15360 (Value.int .u8 0) ++ List.replicate 120 (Value.int .i64 0))).toArray
set_option maxRecDepth 1000000 in
theorem refCells_eq : Try.zeroCells83 = refCells := by kernel_rfl
theorem refCells_size : refCells.size = 15482 := by
  unfold refCells
  rw [List.size_toArray, List.length_append, List.length_append, List.length_replicate, List.length_replicate]
  rfl
def refF (i : Nat) : Value := refCells[i]?.getD undef
theorem refF_page (i : Nat) (h : i < 15360) : refF (2 + i) = .int .u8 0 := by
  unfold refF refCells
  rw [List.getElem?_toArray, List.getElem?_append_right (by simp), List.getElem?_append_left (by rw [List.length_replicate]; simp; omega), List.getElem?_replicate, if_pos (by simp; omega)]
  rfl
theorem refF_stamp (i : Nat) (h : i < 120) : refF (15362 + i) = .int .i64 0 := by
  unfold refF refCells
  rw [List.getElem?_toArray, List.getElem?_append_right (by simp; omega), List.getElem?_append_right (by rw [List.length_replicate]; simp; omega), List.getElem?_replicate, if_pos (by rw [List.length_replicate]; simp; omega)]
  rfl
theorem refF_0 : refF 0 = .slice none 0 0 := by
  unfold refF refCells
  rw [List.getElem?_toArray, List.getElem?_append_left (by simp)]
  rfl
theorem refF_1 : refF 1 = .slice none 0 0 := by
  unfold refF refCells
  rw [List.getElem?_toArray, List.getElem?_append_left (by simp)]
  rfl
set_option maxRecDepth 1000000 in
theorem refNewAt {w0 w : World} (h : New w0 w) : RefAt w0 (w.alloc (.cells Try.zeroCells83 83)) w.heap.size ⟨refF, .slice none 0 0, .slice none 0 0, []⟩ pw0 := by
  rw [refCells_eq]
  refine ⟨h.alloc _ _, ⟨refCells, alloc_block w _, refCells_size, fun i hi => ?_⟩, refF_0, refF_1, fun p hp i hi => ?_, fun p hp => refF_stamp p hp, ⟨[], World.ownsRow_nil _ _ _ _, RecCells.nil _⟩, ⟨World.ownsRow_nil _ _ _ _, fun x hx => (by cases hx), fun _ _ => rfl, fun x hx => (by cases hx), List.nodup_nil, List.nodup_nil, fun x hx => (by cases hx)⟩, h.size, fun k hk => ?_, fun x hx => (by cases hx), fun k o hk => (by cases hk)⟩
  · have e : refF i = refCells[i]'(by rw [refCells_size]; exact hi) := by
      unfold refF
      rw [Array.getElem?_eq_getElem (by rw [refCells_size]; exact hi)]
      rfl
    show refCells[i]? = some (refF i)
    rw [e, Array.getElem?_eq_getElem (by rw [refCells_size]; exact hi)]
  · show (byteVals zeroPage)[i]? = some (refF (2 + p * 128 + i))
    rw [show 2 + p * 128 + i = 2 + (p * 128 + i) by omega, refF_page _ (by omega), zeroPage_vals, List.getElem?_replicate, if_pos hi]
  · rcases hk with hk | hk | ⟨x, hx, _⟩
    · cases hk
    · cases hk
    · cases hx
/-- What walk returns. -/
def RWalkIs (l : List Rec) (w : World) (e : Ending) (w' : World) : Prop :=
  (walkW l = none ∧ e = .returned (.pointer none) ∧ New w w') ∨
  (∃ W wb S, walkW l = some W ∧ e = .returned (.pointer (some ⟨wb, 0, none⟩)) ∧ RefAt w w' wb S W ∧ S.lu.length ≤ l.length)
structure RWalking (l : List Rec) (w wr : World) (wb k : Nat) (W : PW) (S : RSh) : Prop where
  walk : walkW (l.take k) = some W
  at_ : RefAt w wr wb S W
  len : S.lu.length ≤ k
theorem RWalking.next {l : List Rec} {w wr w' : World} {wb k : Nat} {W : PW} {S S' : RSh} (h : RWalking l w wr wb k W S) (hk : k < l.length) (ho : Ok W l[k]) (hw : RefAt w w' wb S' (next W l[k])) (h1 : S'.lu.length ≤ S.lu.length + 1) :
    RWalking l w w' wb (k + 1) (Go.Proofs.Ytmchbciofdokfaa.next W l[k]) S' :=
  ⟨by rw [List.take_succ_eq_append_getElem hk]; exact walk_yes h.walk ho, hw, by have := h.len; omega⟩
theorem RWalking.stop {l : List Rec} {w wr : World} {wb k : Nat} {W : PW} {S : RSh} (h : RWalking l w wr wb k W S) (hk : k < l.length) (ho : ¬ Ok W l[k]) : walkW l = none := by
  refine walk_take_none (k := k + 1) ?_
  rw [List.take_succ_eq_append_getElem hk]
  exact walk_no h.walk ho
theorem good_befores {l : List Rec} {W : PW} (G : Good l W) : ∀ n, ∀ k ∈ (W.unit n).left, (recN W.recs k).kind = 1 ∧ (recN W.recs k).before.size ≤ 1000 := fun n k hk => by
  obtain ⟨h1, h2, h3, h4, h5⟩ := G.left n k hk
  rw [G.recs]
  refine ⟨h3, ?_⟩
  have hp := place_bounds (valid_place h5 (by rw [lays, h3]; rfl))
  have hb := valid_before h5 h3
  omega
set_option maxRecDepth 100000 in
set_option maxHeartbeats 4000000 in
theorem rwalk_any (v : Value) (l : List Rec) (w : World) (h : Recs w v l) (hl : l.length ≤ 1000) : Calls Try.prog 39 #[v] w (RWalkIs l w) := by
  obtain ⟨p, c, rfl, hc, hm⟩ := h.form
  have H := hid h
  have HL := hid hl
  unfold maxLen at hm
  have tl : decide (1000000 < (l.length : Int)) = false := by simp; omega
  clear h
  go_enter Try.func39, Try.ntmps39
  go_wp2_with fail
  have H1 : Hid (RWalking l w (w.alloc (.cells Try.zeroCells83 83)) w.heap.size 0 pw0 ⟨refF, .slice none 0 0, .slice none 0 0, []⟩) := hid ⟨by rw [List.take_zero]; exact walk_nil, refNewAt (New.refl w), Nat.le_refl _⟩
  generalize w.alloc (.cells Try.zeroCells83 83) = w1 at *
  generalize w.heap.size = wb at *
  go_loopw [4] (fun i wr => ∃ k : Nat, k ≤ l.length ∧ i = .int .i64 k ∧ Hid (∃ W S, RWalking l w wr wb k W S)) (fun i _ => l.length - (intOf i).toNat)
  case atStart => exact ⟨0, Nat.zero_le _, rfl, hid ⟨_, _, H1.out⟩⟩
  case round =>
    clear H1
    obtain ⟨k, hk, rfl, hW⟩ := hrel
    obtain ⟨W, S, HW0⟩ := hW.out
    have HW := hid HW0
    clear HW0 hW
    by_cases hlt : k < l.length
    · obtain ⟨b, o, p1, c1, p2, c2, p3, c3, rfl, hb, hra, hcells⟩ := recs_facts H.out HW.out.at_.new hlt
      obtain ⟨y20, y21, y22, y23, y24, y25, y26, y27, y28, y29⟩ := rec_ten (hcells _ (New.refl _))
      have HCELLS := hid hcells
      have HRA := hid hra
      have HNEXT : Hid (∀ S' w', Ok W l[k] → RefAt w w' wb S' (next W l[k]) → S'.lu.length ≤ S.lu.length + 1 → RWalking l w w' wb (k + 1) (next W l[k]) S') := hid (fun S' w' a b c => HW.out.next hlt a b c)
      have HSTOP := hid (HW.out.stop hlt)
      have HG := hid (good HW.out.walk)
      have HTL : Hid ((l.take k).length ≤ 1000) := hid (by rw [List.length_take]; have := HL.out; omega)
      have HSA := hid (good_sane HG.out HTL.out)
      have HLU : Hid (S.lu.length ≤ 1000) := hid (by have := HW.out.len; have := HL.out; omega)
      have HBF := hid (good_befores HG.out)
      clear hra hcells
      generalize l[k] = r at *
      go_wp2_with fail
      refine (follows_any w wb S W r _ _ _ _ HW.out.at_ HRA.out HSA.out HG.out.zero HLU.out HBF.out).mono ?_
      rintro e w2 ⟨B, rfl, hB, hn⟩
      have HB := hid hB
      have HN := hid hn
      clear hB hn
      cases B
      · have HX : Hid (RWalkIs l w (.returned (.pointer none)) w2) := hid (.inl ⟨HSTOP.out (fun ho => by have := HB.out.2 ho; cases this), rfl, HW.out.at_.new.trans HN.out⟩)
        clear y20 y21 y22 y23 y24 y25 y26 y27 y28 y29
        go_wp2
        go_ret
        exact HX.out
      · have HOK := hid (HB.out.1 rfl)
        clear y20 y21 y22 y23 y24 y25 y26 y27 y28 y29
        obtain ⟨y20, y21, y22, y23, y24, y25, y26, y27, y28, y29⟩ := rec_ten (HCELLS.out _ HN.out)
        have HW2 := hid (HW.out.at_.newer HN.out)
        go_wp2_with fail
        refine (radd_any w wb S W r _ _ _ _ HW2.out (HRA.out.new HW2.out.new) (fun _ => HRA.out) (.inl HRA.out.after) (fun hly => valid_place HOK.out.valid hly) (by rcases valid_kind HOK.out.valid with h | h | h | h | h | h | h <;> omega) (fun h2 => (HOK.out.undone h2).1) HSA.out.size (by have := HSA.out.len; omega) (fun n => by have := HSA.out.lefts n; omega) (by have := HLU.out; omega)).mono ?_
        rintro e w3 ⟨rfl, S3, h3, hl3⟩
        have HX := hid (HNEXT.out _ _ HOK.out h3 hl3)
        clear h3 hl3 y20 y21 y22 y23 y24 y25 y26 y27 y28 y29
        go_wp2
        go_roundw
        case rel => exact ⟨k + 1, by omega, by go_num, hid ⟨_, _, HX.out⟩⟩
        case measure => simp [intOf]; omega
    · obtain rfl : k = l.length := by omega
      have HE : Hid (walkW l = some W) := hid (by have := HW.out.walk; rwa [List.take_length] at this)
      go_wp2
      go_ret
      exact .inr ⟨W, wb, S, HE.out, rfl, HW.out.at_, HW.out.len⟩
def RSoundIs (l : List Rec) (w : World) (e : Ending) (w' : World) : Prop := e = .returned (.bool (walkW l).isSome) ∧ New w w'
theorem rsound_any (v : Value) (l : List Rec) (w : World) (h : Recs w v l) (hl : l.length ≤ 1000) : Calls Try.prog 22 #[v] w (RSoundIs l w) := by
  have H := hid h
  have HL := hid hl
  clear h
  go_enter Try.func22, Try.ntmps22
  go_wp2_with fail
  refine (rwalk_any _ l _ H.out HL.out).mono ?_
  rintro e w1 (⟨hn, rfl, n1⟩ | ⟨W, wb, S, hs, rfl, hw, h1⟩)
  · have HX : Hid (RSoundIs l w (.returned (.bool false)) w1) := hid ⟨by rw [hn]; rfl, n1⟩
    clear hn n1
    go_wp2
    go_ret
    exact HX.out
  · have HX : Hid (RSoundIs l w (.returned (.bool true)) w1) := hid ⟨by rw [hs]; rfl, hw.new⟩
    clear hs hw h1
    go_wp2
    go_ret
    exact HX.out
end Go.Proofs.Ytmchbciofdokfaa
