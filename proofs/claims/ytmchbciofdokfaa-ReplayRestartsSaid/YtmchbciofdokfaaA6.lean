/- What octet.Number, octet.Small and octet.Text return for what is in range. -/
import Derived.Test.YtmchbciofdokfaaProg
import Derived.Test.YtmchbciofdokfaaA0
import Derived.Lib.AppendStr
namespace Go.Proofs.Ytmchbciofdokfaa
open Go.RowKit

/-- The four bytes of a number. -/
def numB (n : Int) : List UInt8 := [UInt8.ofNat (n / 16777216).toNat, UInt8.ofNat (n / 65536).toNat, UInt8.ofNat (n / 256).toNat, UInt8.ofNat n.toNat]
def bytesOf (l : List UInt8) : ByteArray := ⟨l.toArray⟩
theorem bytesOf_size (l : List UInt8) : (bytesOf l).size = l.length := by simp [bytesOf, ByteArray.size]

/-- A slice of bytes and OK come back, in new memory. -/
def BytesBack (s : ByteArray) (w : World) (e : Ending) (w' : World) : Prop := ∃ v, e = .returned (.tuple #[v, .int .i64 0]) ∧ Bytes w' v s ∧ New w w'


theorem Bytes.made (w : World) (s : ByteArray) (n : Nat) (xs : List Value) (hn : s.size = n) (hm : n ≤ maxLen) (hx : byteVals s = xs) : Bytes (w.alloc (.cells xs.toArray 5)) (.slice (some ⟨w.heap.size, 0, none⟩) n n) s := by
  subst hn hx
  exact RowAt.made w _ 5 s.size hm

theorem numB_vals (n : Int) (h0 : 0 ≤ n) (h1 : n ≤ 4294967295) : byteVals (bytesOf (numB n)) = [.int .u8 (n / 16777216), .int .u8 (n / 65536 % 256), .int .u8 (n / 256 % 256), .int .u8 (n % 256)] := by
  simp only [byteVals, bytesOf, numB, List.map_cons, List.map_nil, UInt8.toNat_ofNat']
  congr 1
  · congr 1; omega
  · congr 1
    · congr 1; omega
    · congr 1
      · congr 1; omega
      · congr 1; congr 1; omega
theorem smallB_vals (n : Int) (h0 : 0 ≤ n) (h1 : n ≤ 255) : byteVals (bytesOf [UInt8.ofNat n.toNat]) = [.int .u8 n] := by
  simp only [byteVals, bytesOf, List.map_cons, List.map_nil, UInt8.toNat_ofNat']
  congr 2; omega

theorem info5 : (Try.prog.info? 5).map (fun i => (i.zero, i.size, i.bytes)) = some (some (.int .u8 0), 1, 1) := by kernel_rfl

theorem RowAt.owned {w : World} {base : Nat} {e : TypeId} {size : Nat} {v : Value} {n : Nat} {xs : List Value} (h : w.ownsRow base e size v n xs) : RowAt w v n xs := by
  have hl := h.1
  rcases h.2 with ⟨rfl, rfl⟩ | ⟨g, cap, cur, rfl, hb, hg, hnc, hm, hs, ht⟩
  · exact ⟨none, 0, rfl, Nat.le_refl _, by decide, fun h => by omega⟩
  · refine ⟨_, cap, rfl, hnc, hm, fun _ => ⟨g, 0, rfl, (Array.getElem?_eq_some_iff.1 hg).1, fun i hi => ?_⟩⟩
    rw [Nat.zero_add, cell_of_row w g i cur e (0, 0) hg, ← ht]
    rw [← ht] at hi
    simp only [List.getD_eq_getElem?_getD, List.length_take, Array.length_toList] at *
    rw [List.getElem?_take, if_pos (by omega), List.getElem?_eq_getElem (by simp; omega)]
    simp

theorem text_vals (s : ByteArray) : byteVals (bytesOf (UInt8.ofNat s.size :: s.data.toList)) = [.int .u8 ((s.size % 256 : Nat) : Int)] ++ Lib.strCells s := by
  simp only [byteVals, bytesOf, Lib.strCells, List.map_cons, UInt8.toNat_ofNat', List.cons_append, List.nil_append]
theorem own_bytes {w : World} {base : Nat} {v : Value} {n : Nat} {xs : List Value} {s : ByteArray} (h : w.ownsRow base 5 1 v n xs) (hn : s.size = n) (hx : byteVals s = xs) : Bytes w v s := by
  subst hn hx
  exact RowAt.owned h

theorem app_str {ops : Array Oper} {rest : List Oper} {o : Oper} {a : Act} {w : World} {Q : Exit → Act → World → Prop} (hgd : o.guard = none) (sl x : Operand)
    (ho : o.op = .call { callee := .builtin .append, args := #[sl, x], argTypes := #[33, 9] }) (base : Nat)
    (v : Value) (n : Nat) (xs : List Value) (hs : a.eval sl = v) (hown : w.ownsRow base 5 1 v n xs) (s : ByteArray) (hx : a.eval x = .string s)
    (hb : n + s.size ≤ 140737488355328) (hbase : base ≤ w.heap.size)
    (h : ∀ v' w', w'.ownsRow base 5 1 v' (n + s.size) (xs ++ Lib.strCells s) → w.grownBy w' v.ownBlock → wpList Try.prog ops Q rest (a.put o.dst v') w') : wpList Try.prog ops Q (o :: rest) a w := by
  obtain ⟨i0, hi, hz0, hz1, hz2⟩ := info_parts info5
  exact Lib.wpList_append_own_string w hgd sl x 33 9 ho base 5 i0 Try.underlying33 Try.underlying9 hi hz0 hz1 hz2 v n xs hs hown s hx (by unfold maxLen; omega) hb hbase fun v' w' h1 h2 _ => h v' w' h1 h2

end Go.Proofs.Ytmchbciofdokfaa
