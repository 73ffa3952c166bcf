/- What tape.Encode returns for sound records of each kind but marks. -/
import Derived.Test.YtdccbceaajnajaaA7
import Derived.Test.YtdccbceaajnajaaA10
import Derived.Laws.CopyOwn
namespace Go.Proofs.Ytdccbceaajnajaa
open Go.RowKit
set_option linter.unusedSimpArgs false
set_option linter.unusedVariables false

theorem info5s : (Try.prog.info? 5).map (·.size) = some 1 := by kernel_rfl
theorem addr_at (b o j : Nat) : (⟨b, o, none⟩ : Addr).add j = ⟨b, o + j, none⟩ := by unfold Addr.add; split <;> simp_all

/-- copy over the head of a row of bytes of the call's own. -/
theorem copy_head {ops : Array Oper} {rest : List Oper} {o : Oper} {a : Act} {w : World} {Q : Exit → Act → World → Prop} (hgd : o.guard = none) (d s : Operand)
    (ho : o.op = .call { callee := .builtin .copy, args := #[d, s], argTypes := #[22, 22] }) (base : Nat)
    (v : Value) (n : Nat) (xs : List Value) (hd : a.eval d = v) (hown : w.ownsRow base 5 1 v n xs) (u : Value) (hs : a.eval s = u) (t : List UInt8) (hu : Bytes w u (bytesOf t)) (hpos : 0 < t.length) (hle : t.length ≤ n)
    (h : ∀ w', w'.ownsRow base 5 1 v n (u8s t ++ xs.drop t.length) → w.grownBy w' v.ownBlock → wpList Try.prog ops Q rest (a.put o.dst (goInt t.length)) w') : wpList Try.prog ops Q (o :: rest) a w := by
  obtain ⟨p, c, rfl, h1, h2, h3⟩ := hu
  rw [u8s_bytes, bytesOf_size, u8s_length] at h3
  rw [bytesOf_size] at hs h1
  obtain ⟨b, off, rfl, hb', hc⟩ := h3 hpos
  rcases hown.2 with ⟨rfl, rfl⟩ | ⟨g, cap, cur, rfl, hbg, hg, hnc, hcm, hcs, htake⟩
  · omega
  have hl := u8s_length t
  refine wpList_copy_own hgd d s 22 22 ho 5 Try.underlying22 info5s g 0 n cap ⟨b, off, none⟩ t.length c hd hs cur 5 hg (u8s t) (by rw [hl]; exact (Nat.min_eq_left hle).symm) (fun j u hj => ?_) (by rw [hl]; omega) (u8s_one t) ?_
  · have hjl : j < t.length := by
      have := (List.getElem?_eq_some_iff.1 hj).1
      rwa [hl] at this
    rw [addr_at, hc j hjl]
    simp [List.getD_eq_getElem?_getD, hj]
  · rw [hl]
    have hx : xs.length = n := by have := hown.1; omega
    refine h _ ⟨by simp [hl, hx]; omega, .inr ⟨g, cap, _, rfl, hbg, setRow_heap w g cur _ 5 _ hg, hnc, hcm, ?_, ?_⟩⟩ ⟨rfl, rfl, rfl, by simp [World.setRow], fun k _ hk => setRow_other w g k _ (fun e => hk (by simp [Value.ownBlock, e]))⟩
    · simp [hl]; omega
    · simp only [Nat.zero_add, List.take_zero, List.nil_append, Nat.mul_one]
      rw [Nat.mul_one] at htake
      rw [← htake, List.drop_take, List.take_append, hl, List.take_of_length_le (by omega)]

theorem own_new {w w' : World} {base : Nat} {e : TypeId} {size : Nat} {v : Value} {n : Nat} {xs : List Value} (h : w.ownsRow base e size v n xs) (hb : New w w') : w'.ownsRow base e size v n xs := by
  refine ⟨h.1, ?_⟩
  rcases h.2 with h3 | ⟨g, cap, cur, e, hg, hh, r⟩
  · exact .inl h3
  · exact .inr ⟨g, cap, cur, e, hg, by rw [Below.block hb g (Array.getElem?_eq_some_iff.1 hh).1]; exact hh, r⟩
theorem Bytes.renew {w w' : World} {v : Value} {s : ByteArray} (h : Bytes w v s) (hb : New w w') : Bytes w' v s := RowAt.new h hb
theorem New.trans_grown {w a b : World} {row : Option Nat} (h : New w a) (hg : a.grownBy b row) (hr : ∀ k, row = some k → w.heap.size ≤ k) : New w b := Below.grown h hg h.size hr
theorem New.below {w a b : World} {B : Nat} (h : New w a) (hb : Below B a b) (hB : w.heap.size ≤ B) : New w b := Below.trans h (hb.mono hB)

def textB (s : ByteArray) : List UInt8 := UInt8.ofNat s.size :: s.data.toList
def smallB (n : Int) : List UInt8 := [UInt8.ofNat n.toNat]
def opnB (u : Opn) : List UInt8 := numB u.unit ++ numB u.next ++ textB u.ready
/-- What stands behind the four parts that all records have. -/
def restB (r : Rec) : List UInt8 :=
  if r.kind = 1 then numB r.page ++ smallB r.at_ ++ textB r.before ++ textB r.after
  else if r.kind = 2 then numB r.page ++ smallB r.at_ ++ textB r.after ++ numB r.back ++ numB r.next
  else if r.kind = 5 ∨ r.kind = 7 then textB r.text
  else if r.kind = 6 then smallB r.units.length ++ r.units.flatMap opnB
  else []
def headB (n : Int) (r : Rec) : List UInt8 := numB n ++ smallB r.kind ++ numB r.unit
/-- The block of a record. -/
def encB (n : Int) (r : Rec) : List UInt8 := numB (4 + (headB n r ++ restB r).length) ++ (headB n r ++ restB r)

theorem Below.cells {B b : Nat} {w w' : World} (h : Below B w w') (hb : b < B) : (∀ o, w'.cell? ⟨b, o, none⟩ = w.cell? ⟨b, o, none⟩) ∧ (∀ o, w'.frozen? ⟨b, o, none⟩ = w.frozen? ⟨b, o, none⟩) :=
  ⟨fun o => h.cell (p := ⟨b, o, none⟩) hb, fun o => h.frozen (p := ⟨b, o, none⟩) hb⟩
theorem below_at {B b : Nat} {W W' : World} {c : Array Value} (h : Below B W W') (hb : b < B) (hc : ∀ o, W.cell? ⟨b, o, none⟩ = c[o]?) : ∀ o, W'.cell? ⟨b, o, none⟩ = c[o]? :=
  fun o => (h.cell (p := ⟨b, o, none⟩) hb).trans (hc o)
theorem own_len {w : World} {base : Nat} {e : TypeId} {size : Nat} {v : Value} {n : Nat} {xs : List Value} (h : w.ownsRow base e size v n xs) : ∃ A c, v = .slice A n c := by
  rcases h.2 with ⟨rfl, rfl⟩ | ⟨g, cap, cur, rfl, _⟩
  · exact ⟨_, _, rfl⟩
  · exact ⟨_, _, rfl⟩
theorem numB_length (n : Int) : (numB n).length = 4 := rfl
theorem drop_num (n : Int) (l : List UInt8) : (numB n ++ l).drop 4 = l := rfl
/-- The bytes of a block, whose first four were laid last. -/
theorem enc_fin {n : Int} {r : Rec} {S : List UInt8} (hS : S = numB 0 ++ (headB n r ++ restB r)) : byteVals (bytesOf (encB n r)) = u8s (numB (S.length : Int)) ++ (u8s S).drop (numB (S.length : Int)).length ∧ (bytesOf (encB n r)).size = S.length := by
  have h4 : S.length = 4 + (headB n r ++ restB r).length := by rw [hS, List.length_append, numB_length]
  have e : (u8s S).drop (numB (S.length : Int)).length = u8s (headB n r ++ restB r) := by
    rw [numB_length, hS, u8s_append, show u8s (numB 0) = [.int .u8 0, .int .u8 0, .int .u8 0, .int .u8 0] from rfl]
    rfl
  rw [e, u8s_bytes, bytesOf_size, encB, ← u8s_append, h4]
  refine ⟨?_, ?_⟩
  · rw [show ((4 + (headB n r ++ restB r).length : Nat) : Int) = 4 + ((headB n r ++ restB r).length : Int) from by omega]
  · rw [List.length_append, numB_length]

theorem valid_bounds_1 {r : Rec} (hk : r.kind = 1) (hv : validB r = true) : 0 ≤ r.unit ∧ r.unit ≤ 1000000 ∧ 0 ≤ r.page ∧ r.page ≤ 119 ∧ 0 ≤ r.at_ ∧ r.at_ ≤ 127 ∧ r.before.size ≤ 128 ∧ r.after.size ≤ 128 := by
  have hv := hv
  simp only [validB, hk, wi_iff, Bool.and_eq_true, placeB, decide_eq_true_eq, Bool.if_true_right, Bool.if_false_right] at hv
  simp only [wi_iff, Bool.and_eq_true, placeB, np, nf, nb, nu, nt, decide_eq_true_eq, if_true, if_false, reduceIte, Int.reduceEq] at hv
  omega
theorem valid_bounds_2 {r : Rec} (hk : r.kind = 2) (hv : validB r = true) : 0 ≤ r.unit ∧ r.unit ≤ 1000000 ∧ 0 ≤ r.page ∧ r.page ≤ 119 ∧ 0 ≤ r.at_ ∧ r.at_ ≤ 127 ∧ r.after.size ≤ 128 ∧ 0 ≤ r.back ∧ r.back ≤ 1000000 ∧ 0 ≤ r.next ∧ r.next ≤ 1000000 := by
  have hv := hv
  simp only [validB, hk, wi_iff, Bool.and_eq_true, placeB, decide_eq_true_eq, Bool.if_true_right, Bool.if_false_right] at hv
  simp only [wi_iff, Bool.and_eq_true, placeB, np, nf, nb, nu, nt, decide_eq_true_eq, if_true, if_false, reduceIte, Int.reduceEq] at hv
  omega
theorem valid_bounds_3 {r : Rec} (hk : r.kind = 3) (hv : validB r = true) : 0 ≤ r.unit ∧ r.unit ≤ 1000000 := by
  have hv := hv
  simp only [validB, hk, wi_iff, Bool.and_eq_true, placeB, decide_eq_true_eq, Bool.if_true_right, Bool.if_false_right] at hv
  simp only [wi_iff, Bool.and_eq_true, placeB, np, nf, nb, nu, nt, decide_eq_true_eq, if_true, if_false, reduceIte, Int.reduceEq] at hv
  omega
theorem valid_bounds_4 {r : Rec} (hk : r.kind = 4) (hv : validB r = true) : 0 ≤ r.unit ∧ r.unit ≤ 1000000 := by
  have hv := hv
  simp only [validB, hk, wi_iff, Bool.and_eq_true, placeB, decide_eq_true_eq, Bool.if_true_right, Bool.if_false_right] at hv
  simp only [wi_iff, Bool.and_eq_true, placeB, np, nf, nb, nu, nt, decide_eq_true_eq, if_true, if_false, reduceIte, Int.reduceEq] at hv
  omega
theorem valid_bounds_5 {r : Rec} (hk : r.kind = 5) (hv : validB r = true) : 0 ≤ r.unit ∧ r.unit ≤ 1000000 ∧ r.text.size ≤ 200 := by
  have hv := hv
  simp only [validB, hk, wi_iff, Bool.and_eq_true, placeB, decide_eq_true_eq, Bool.if_true_right, Bool.if_false_right] at hv
  simp only [wi_iff, Bool.and_eq_true, placeB, np, nf, nb, nu, nt, decide_eq_true_eq, if_true, if_false, reduceIte, Int.reduceEq] at hv
  omega
theorem valid_bounds_7 {r : Rec} (hk : r.kind = 7) (hv : validB r = true) : 0 ≤ r.unit ∧ r.unit ≤ 1000000 ∧ r.text.size ≤ 200 := by
  have hv := hv
  simp only [validB, hk, wi_iff, Bool.and_eq_true, placeB, decide_eq_true_eq, Bool.if_true_right, Bool.if_false_right] at hv
  simp only [wi_iff, Bool.and_eq_true, placeB, np, nf, nb, nu, nt, decide_eq_true_eq, if_true, if_false, reduceIte, Int.reduceEq] at hv
  omega
end Go.Proofs.Ytdccbceaajnajaa
