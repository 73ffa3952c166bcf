/- What a block may have behind a loss of power (possible): rows of texts and of numbers, and the function. -/
import Derived.Test.YtbclgklpcbajfaaD17
import Derived.Deep.Onto
import Derived.BigRegion
import Derived.Lib.MinMax
namespace Go.Proofs.Ytbclgklpcbajfaa
open Go.RowKit
set_option linter.unusedSimpArgs false
set_option linter.unusedVariables false

theorem info9 : (Try.prog.info? 9).map (fun i => (i.zero, i.size, i.bytes)) = some (some (.string ByteArray.empty), 1, 16) := by kernel_rfl
theorem info3 : (Try.prog.info? 3).map (fun i => (i.zero, i.size, i.bytes)) = some (some (.int .i64 0), 1, 8) := by kernel_rfl

set_option maxRecDepth 10000 in
theorem app_texts {ops : Array Oper} {rest : List Oper} {o : Oper} {a : Act} {w : World} {Q : Exit → Act → World → Prop} (hgd : o.guard = none) (sl x : Operand)
    (ho : o.op = .call { callee := .builtin .append, args := #[sl, x], argTypes := #[101, 101] }) (base : Nat)
    (v : Value) (n : Nat) (xs : List Value) (hs : a.eval sl = v) (hown : w.ownsRow base 9 1 v n xs) (q : Addr) (s : ByteArray) (hx : a.eval x = .slice (some q) 1 1)
    (hn : w.cell? q = some (.string s)) (hb : n + 1 ≤ 1000000000) (hbase : base ≤ w.heap.size)
    (h : ∀ v' w', w'.ownsRow base 9 1 v' (n + 1) (xs ++ [.string s]) → w.grownBy w' v.ownBlock → (v'.ownBlock = v.ownBlock ∨ v'.ownBlock = some w.heap.size) → wpList Try.prog ops Q rest (a.put o.dst v') w') : wpList Try.prog ops Q (o :: rest) a w := by
  obtain ⟨i0, hi, hz0, hz1, hz2⟩ := info_parts info9
  exact wpList_append_own_at w hgd sl x 101 ho base 9 i0 _ 1 16 Try.underlying101 hi hz0 hz1 hz2 rfl (by decide) v n xs hs hown q 1 1 [.string s] hx rfl
    (fun j u hj => by
      cases j with
      | zero => simp at hj; subst hj; rw [show q.add 0 = q by simp [Addr.add]]; exact hn
      | succ j => simp at hj) (fun u hu => by simp at hu; subst hu; rfl) (by unfold maxLen; omega) (by omega) hbase fun v' w' h1 h2 _ h4 => h v' w' h1 h2 h4
set_option maxRecDepth 10000 in
theorem app_nums {ops : Array Oper} {rest : List Oper} {o : Oper} {a : Act} {w : World} {Q : Exit → Act → World → Prop} (hgd : o.guard = none) (sl x : Operand)
    (ho : o.op = .call { callee := .builtin .append, args := #[sl, x], argTypes := #[35, 35] }) (base : Nat)
    (v : Value) (n : Nat) (xs : List Value) (hs : a.eval sl = v) (hown : w.ownsRow base 3 1 v n xs) (q : Addr) (s : Int) (hx : a.eval x = .slice (some q) 1 1)
    (hn : w.cell? q = some (.int .i64 s)) (hb : n + 1 ≤ 1000000000) (hbase : base ≤ w.heap.size)
    (h : ∀ v' w', w'.ownsRow base 3 1 v' (n + 1) (xs ++ [.int .i64 s]) → w.grownBy w' v.ownBlock → (v'.ownBlock = v.ownBlock ∨ v'.ownBlock = some w.heap.size) → wpList Try.prog ops Q rest (a.put o.dst v') w') : wpList Try.prog ops Q (o :: rest) a w := by
  obtain ⟨i0, hi, hz0, hz1, hz2⟩ := info_parts info3
  exact wpList_append_own_at w hgd sl x 35 ho base 3 i0 _ 1 8 Try.underlying35 hi hz0 hz1 hz2 rfl (by decide) v n xs hs hown q 1 1 [.int .i64 s] hx rfl
    (fun j u hj => by
      cases j with
      | zero => simp at hj; subst hj; rw [show q.add 0 = q by simp [Addr.add]]; exact hn
      | succ j => simp at hj) (fun u hu => by simp at hu; subst hu; rfl) (by unfold maxLen; omega) (by omega) hbase fun v' w' h1 h2 _ h4 => h v' w' h1 h2 h4

/-- A list of numbers that lies in memory. -/
def Nums (w : World) (v : Value) (l : List Nat) : Prop := RowAt w v l.length (l.map fun n : Nat => Value.int .i64 (n : Int))
theorem Nums.at {w : World} {b o : Nat} {l : List Nat} (hc : ∀ i, i < (l.map fun n : Nat => Value.int .i64 (n : Int)).length → w.cell? ⟨b, o + i, none⟩ = some ((l.map fun n : Nat => Value.int .i64 (n : Int)).getD i undef)) {i : Nat} (hi : i < l.length) : w.cell? ⟨b, o + i, none⟩ = some (.int .i64 (l[i] : Int)) := by
  rw [hc i (by simpa using hi)]
  simp [List.getD_eq_getElem?_getD, hi]

/-- The texts that a block may have in whole. -/
def textsOf (l : List Deed) (ws : List Nat) (m : Int) (was : ByteArray) : List ByteArray := was :: (ws.filterMap fun j => (l[j]?).bind fun a => if a.block = m then some a.bytes else none)
def mixed (a c : ByteArray) (k : Nat) : ByteArray := a.extract 0 k ++ c.extract (min k c.size) c.size
def oneOk (all : List ByteArray) (now : ByteArray) (k : Nat) (a : ByteArray) : Bool := decide (now = a) || all.any fun c => decide (k < a.size) && decide (now = mixed a c k)
def possB (all : List ByteArray) (now : ByteArray) (k : Nat) : Bool := all.any (oneOk all now k)

theorem textsOf_next {l : List Deed} {ws : List Nat} {m : Int} {was : ByteArray} {j : Nat} (hj : j < ws.length) (hl : ws[j] < l.length) :
    textsOf l (ws.take (j + 1)) m was = if (l[ws[j]]).block = m then textsOf l (ws.take j) m was ++ [(l[ws[j]]).bytes] else textsOf l (ws.take j) m was := by
  have e : ws.take (j + 1) = ws.take j ++ [ws[j]] := (List.take_append_getElem hj).symm
  have e1 : l[ws[j]]? = some l[ws[j]] := List.getElem?_eq_getElem hl
  simp only [textsOf, e, List.filterMap_append]
  by_cases h : (l[ws[j]]).block = m
  · simp only [if_pos h, List.filterMap_cons, List.filterMap_nil, e1, Option.bind_some, List.cons_append]
  · simp only [if_neg h, List.filterMap_cons, List.filterMap_nil, e1, Option.bind_some, List.append_nil]

end Go.Proofs.Ytbclgklpcbajfaa
