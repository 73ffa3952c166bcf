/- add: what appends numbers, what a commit leaves. -/
import Derived.Test.YtmchbciofdokfaaW10
namespace Go.Proofs.Ytmchbciofdokfaa
open Go.RowKit
open Go.ChangeMaps (setBlock)
set_option linter.unusedSimpArgs false
set_option linter.unusedVariables false

theorem infoInt3 : (Try.prog.info? 3).map (fun i => (i.zero, i.size, i.bytes)) = some (some (.int .i64 0), 1, 8) := by kernel_rfl
set_option maxRecDepth 10000 in
/-- append(l, x), as a step of a region that draws. -/
theorem step_int {ops : Array Oper} {o : Oper} {a : Act} {w : World} {K : Act → World → Prop} {Q : Exit → Act → World → Prop} {E : Prop} (hgd : o.guard = none) (sl x : Operand)
    (ho : o.op = .call { callee := .builtin .append, args := #[sl, x], argTypes := #[28, 28] })
    (v : Value) (n : Nat) (xs : List Value) (hs : a.eval sl = v) (base : Nat) (hown : w.ownsRow base 3 1 v n xs) (hbase : base ≤ w.heap.size) (k : Nat) (u : Int) (hx : a.eval x = .slice (some ⟨k, 0, none⟩) 1 1)
    (hc : w.cell? ⟨k, 0, none⟩ = some (.int .i64 u)) (hb : n ≤ 1000000)
    (h : ∀ g cap w', w'.ownsRow base 3 1 (.slice (some ⟨g, 0, none⟩) (n + 1) cap) (n + 1) (xs ++ [.int .i64 u]) → w.grownBy w' v.ownBlock → (v.ownBlock = some g ∨ g = w.heap.size) → K (a.put o.dst (.slice (some ⟨g, 0, none⟩) (n + 1) cap)) w') :
    if Region.wanted o (yielded ops a.tmps) = true then Oper.wp Try.prog o a w K Q else E := by
  obtain ⟨i0, hi, hz0, hz1, hz2⟩ := info_parts infoInt3
  refine step_append_lies w hgd sl x 28 ho base 3 i0 _ 1 8 Try.underlying28 hi hz0 hz1 hz2 rfl (by decide) v n xs hs hown ⟨k, 0, none⟩ 1 1 [.int .i64 u] hx rfl (fun j y hj => ?_) (fun y hy => by simp at hy; rw [hy]; rfl) (by omega) (by unfold maxLen; omega) (by omega) hbase _ rfl fun g cap w' h1 h2 h3 _ => h g cap w' h1 h2 h3
  have e : (⟨k, 0, none⟩ : Addr).add j = ⟨k, j, none⟩ := by unfold Addr.add; split <;> simp_all
  cases j with
  | zero => simp at hj; rw [e, hc, hj]
  | succ j => simp at hj
theorem unit_in2 {S : WSh} {n : Int} {lu : List (Int × Nat × Value)} {b b' : Nat} {v v' : Value} (h1 : lu.length ≤ S.lu.length + 1) (h2 : ∀ x ∈ lu, x ∈ S.lu ∨ x.1 = n) : (setU (setU lu n b v) n b' v').length ≤ S.lu.length + 1 ∧ ∀ x ∈ setU (setU lu n b v) n b' v', (∃ y ∈ S.lu, y.1 = x.1) ∨ x.1 = n := by
  refine unit_in (by rw [setU_length]; exact h1) (fun x hx => ?_)
  rcases setU_mem hx with rfl | ⟨h3, _⟩
  · exact .inr rfl
  · exact h2 x h3
/-- A win appended. -/
theorem WorldAt.winsEnd {w0 w wx w8 : World} {wb : Nat} {S : WSh} {W : PW} (h : WorldAt w0 w wb S W) {x : Int} {wv : Value} (hwv : S.wv = wv) (nx : New w wx) {g k : Nat}
    (own : w8.ownsRow 0 3 1 (.slice (some ⟨g, 0, none⟩) (W.wins.length + 1) k) (W.wins.length + 1) (W.wins.map (Value.int .i64) ++ [.int .i64 x])) (grow : wx.grownBy w8 wv.ownBlock) (blk : wv.ownBlock = some g ∨ g = wx.heap.size) :
    WorldAt w0 (w8.setCell ⟨wb, 4, none⟩ (.slice (some ⟨g, 0, none⟩) (W.wins.length + 1) k)) wb { S with wv := .slice (some ⟨g, 0, none⟩) (W.wins.length + 1) k } { W with wins := W.wins ++ [x] } ∧
      Turn (fun k => k = wb ∨ wv.ownBlock = some k) w (w8.setCell ⟨wb, 4, none⟩ (.slice (some ⟨g, 0, none⟩) (W.wins.length + 1) k)) := by
  subst hwv
  have hr1 := h.wins
  have hne : S.wv.ownBlock ≠ some wb := fun e => by
    obtain ⟨c, hc, _⟩ := own_cells hr1 e
    exact absurd (kind_cells hc h.base).2 (by decide)
  have t8 : Turn (fun k => S.wv.ownBlock = some k) w w8 := (Turn.of_new nx).grown grow (fun k _ hk => hk)
  have b8 : w8.heap[wb]? = some (.cells #[S.rv, .map (some S.pg), .map (some S.sm), .map (some S.un), S.wv] 64 (0, 0)) := block_turn h.base t8 hne
  have hgw : g ≠ wb := fun e => by
    rcases blk with h1 | h1
    · exact hne (e ▸ h1)
    · have := (Array.getElem?_eq_some_iff.1 h.base).1
      have := nx.size
      omega
  have b9 := heap_setCell_same w8 wb 4 _ 64 (.slice (some ⟨g, 0, none⟩) (W.wins.length + 1) k) b8
  have t9 : Turn (fun k => k = wb ∨ S.wv.ownBlock = some k) w (w8.setCell ⟨wb, 4, none⟩ (.slice (some ⟨g, 0, none⟩) (W.wins.length + 1) k)) := (t8.mono fun k _ hk => .inr hk).trans ((turn_cell w8 wb 4 _).mono fun k _ hk => .inl hk)
  refine ⟨h.setWins t9 (fun k hk => hk) ?_ ?_ (fun k hk => ?_), t9⟩
  · rw [b9]
    rfl
  · rw [List.length_append, List.length_singleton, List.map_append]
    exact own_turn own (turn_cell w8 wb 4 _) (fun k hk e => by
      simp [Value.ownBlock] at hk
      exact hgw (hk.trans e))
  · simp [Value.ownBlock] at hk
    subst hk
    rcases blk with h1 | h1
    · exact .inl h1
    · right
      have := nx.size
      omega
theorem ok_commit {W : PW} {r : Rec} (hv : validB r = true) (hk : r.kind = 3) (hu : r.unit ≠ 0) : Ok W r ↔ (W.unit r.unit).st ≤ 1 :=
  ⟨fun h => h.runs, fun h => ⟨hv, fun e => absurd e hu, h, fun _ => ⟨by omega, by omega⟩, fun e => by omega, fun e => by omega, fun e => by omega, fun e => by omega⟩⟩
theorem next_commit {W : PW} {r : Rec} {U : AU} (hk : r.kind = 3) (hU : W.unit r.unit = U) : next W r = { W with recs := W.recs ++ [r], unit := fun n => if n = r.unit then ⟨2, U.left, U.text, true⟩ else (if n = r.unit then ⟨2, U.left, U.text, U.seen⟩ else W.unit n), wins := W.wins ++ [r.unit] } := by
  have hl : lays r = false := by rw [lays, hk]; rfl
  unfold next
  simp only [hl, Bool.false_eq_true, false_and, if_false, if_pos hk]
  congr 1
  funext n
  by_cases h : n = r.unit
  · rw [if_pos h, if_pos h, h, hU]
    simp [touch, hk]
  · rw [if_neg h, if_neg h, if_neg h]
set_option maxRecDepth 10000 in
/-- append(l, x). -/
theorem app_num {ops : Array Oper} {rest : List Oper} {o : Oper} {a : Act} {w : World} {Q : Exit → Act → World → Prop} (hgd : o.guard = none) (sl x : Operand)
    (ho : o.op = .call { callee := .builtin .append, args := #[sl, x], argTypes := #[28, 28] })
    (v : Value) (n : Nat) (xs : List Value) (hs : a.eval sl = v) (base : Nat) (hown : w.ownsRow base 3 1 v n xs) (hbase : base ≤ w.heap.size) (k : Nat) (u : Int) (hx : a.eval x = .slice (some ⟨k, 0, none⟩) 1 1)
    (hc : w.cell? ⟨k, 0, none⟩ = some (.int .i64 u)) (hb : n ≤ 1000000)
    (h : ∀ v' w', w'.ownsRow base 3 1 v' (n + 1) (xs ++ [.int .i64 u]) → w.grownBy w' v.ownBlock → (v'.ownBlock = v.ownBlock ∨ v'.ownBlock = some w.heap.size) → wpList Try.prog ops Q rest (a.put o.dst v') w') : wpList Try.prog ops Q (o :: rest) a w := by
  obtain ⟨i0, hi, hz0, hz1, hz2⟩ := info_parts infoInt3
  refine wpList_append_own_at w hgd sl x 28 ho base 3 i0 _ 1 8 Try.underlying28 hi hz0 hz1 hz2 rfl (by decide) v n xs hs hown ⟨k, 0, none⟩ 1 1 [.int .i64 u] hx rfl (fun j y hj => ?_) (fun y hy => by simp at hy; rw [hy]; rfl) (by unfold maxLen; omega) (by omega) hbase fun v' w' h1 h2 _ h4 => h v' w' h1 h2 h4
  have e : (⟨k, 0, none⟩ : Addr).add j = ⟨k, j, none⟩ := by unfold Addr.add; split <;> simp_all
  cases j with
  | zero => simp at hj; rw [e, hc, hj]
  | succ j => simp at hj
/-- A number appended to what is left of a unit. -/
theorem WorldAt.leftEnd {w0 w wx w8 : World} {wb : Nat} {S : WSh} {W : PW} (h : WorldAt w0 w wb S W) {n : Int} {b : Nat} {v v8 : Value} (hx : (n, b, v) ∈ S.lu) (nx : New w wx) {z k : Nat} (hz : (W.unit n).left.length = z)
    (own : w8.ownsRow 0 3 1 v8 (z + 1) (natVals (W.unit n).left ++ [.int .i64 (k : Int)])) (grow : wx.grownBy w8 v.ownBlock) (blk : v8.ownBlock = v.ownBlock ∨ v8.ownBlock = some wx.heap.size) :
    WorldAt w0 ((w8.setCell ⟨b, 1, none⟩ v8).setCell ⟨b, 3, none⟩ (.bool true)) wb { S with lu := setU S.lu n b v8 } { W with unit := fun m => if m = n then ⟨(W.unit n).st, (W.unit n).left ++ [k], (W.unit n).text, true⟩ else W.unit m } ∧
      Turn (fun k => k = b ∨ v.ownBlock = some k) w ((w8.setCell ⟨b, 1, none⟩ v8).setCell ⟨b, 3, none⟩ (.bool true)) := by
  obtain ⟨hu1, hu2⟩ := h.units.unit _ hx
  have hne : v.ownBlock ≠ some b := fun e => by
    obtain ⟨c, hc, _⟩ := own_cells hu2 e
    exact absurd (kind_cells hc hu1).2 (by decide)
  have t8 : Turn (fun k => v.ownBlock = some k) w w8 := (Turn.of_new nx).grown grow (fun k _ hk => hk)
  have b8 := block_turn hu1 t8 hne
  have hlt : b < w.heap.size := (Array.getElem?_eq_some_iff.1 hu1).1
  have hne8 : v8.ownBlock ≠ some b := fun e => by
    rcases blk with h1 | h1
    · exact hne (h1 ▸ e)
    · rw [h1] at e
      injection e with e
      have := nx.size
      omega
  have e1 := heap_setCell_same w8 b 1 _ 66 v8 b8
  have e2 := heap_setCell_same _ b 3 _ 66 (.bool true) e1
  have t9 : Turn (· = b) w8 ((w8.setCell ⟨b, 1, none⟩ v8).setCell ⟨b, 3, none⟩ (.bool true)) := (turn_cell w8 b 1 _).trans (turn_cell _ b 3 _)
  have t10 : Turn (fun k => k = b ∨ v.ownBlock = some k) w ((w8.setCell ⟨b, 1, none⟩ v8).setCell ⟨b, 3, none⟩ (.bool true)) := (t8.mono fun k _ hk => .inr hk).trans (t9.mono fun k _ hk => .inl hk)
  refine ⟨h.setUnit hx t10 (fun k hk => hk) ?_ ?_ (fun k hk => ?_), t10⟩
  · rw [e2]
    rfl
  · have e3 : ((W.unit n).left ++ [k]).length = z + 1 := by rw [List.length_append, hz]; rfl
    have e4 : natVals ((W.unit n).left ++ [k]) = natVals (W.unit n).left ++ [.int .i64 (k : Int)] := by unfold natVals; rw [List.map_append]; rfl
    show World.ownsRow _ 0 3 1 v8 ((W.unit n).left ++ [k]).length (natVals ((W.unit n).left ++ [k]))
    rw [e3, e4]
    exact own_turn own t9 (fun k hk e => hne8 (e ▸ hk))
  · rcases blk with h1 | h1
    · exact .inl (h1 ▸ hk)
    · right
      rw [h1] at hk
      injection hk with hk
      have := nx.size
      omega
end Go.Proofs.Ytmchbciofdokfaa
