/- Words for progenyref03.Decode: its reader, its record, its end. -/
import Derived.Test.YtdccbceaajnajaaT13
import Derived.Test.YtdccbceaajnajaaA3
import Derived.Test.YtdccbceaajnajaaT17
import Derived.Test.YtdccbceaajnajaaT20
import Derived.Test.YtdccbceaajnajaaT21
namespace Go.Proofs.Ytdccbceaajnajaa
open Go.RowKit
set_option linter.unusedSimpArgs false
set_option linter.unusedVariables false

theorem qnumber_at (x : Nat) (s : RS) (n : Int) (s' : RS) (w : World) (e : rdNum s = (n, s')) (h : QdAt w x s) : Calls Try.prog 28 #[.pointer (some ⟨x, 0, none⟩)] w (QBack x (.int .i64 n) s' w) := by
  have := refNumber_any x s w h; rw [e] at this; exact this
abbrev zeroCells : Array Value := #[.int .i64 0, .int .i64 0, .int .i64 0, .int .i64 0, .slice none 0 0, .slice none 0 0, .int .i64 0, .int .i64 0, .string ByteArray.empty, .slice none 0 0]
/-- The reader and the record that is returned, before the record that is filled is made. -/
structure QP (w0 w : World) (x : Nat) (s : RS) : Prop where
  rd : QdAt w x s
  t3 : w.heap[w0.heap.size]? = some (.cells #[.int .i64 0, .int .i64 0, .int .i64 0, .int .i64 0, .slice none 0 0, .slice none 0 0, .int .i64 0, .int .i64 0, .string ByteArray.empty, .slice none 0 0] 69 (0, 0))
  new : New w0 w
  hx : w0.heap.size ≤ x
theorem QP.start {w0 w : World} {x : Nat} {s : RS} (hr : QdAt w x s) (hn : New (w0.alloc (.cells #[.int .i64 0, .int .i64 0, .int .i64 0, .int .i64 0, .slice none 0 0, .slice none 0 0, .int .i64 0, .int .i64 0, .string ⟨#[]⟩, .slice none 0 0] 69)) w) (hx : w0.heap.size ≤ x) : QP w0 w x s :=
  ⟨hr, by rw [Below.block hn _ (by simp)]; exact heap_alloc_new w0 _, ((New.refl w0).alloc _ _).trans hn, hx⟩
theorem QP.read {w0 w w' : World} {x : Nat} {s s' : RS} (h : QP w0 w x s) (hr : QdAt w' x s') (ht : Turn (· = x) w w') : QP w0 w' x s' := by
  obtain ⟨d, hd⟩ := qdLaw.typed h.rd
  exact ⟨hr, by rw [ht.block _ (Array.getElem?_eq_some_iff.1 h.t3).1 (type_ne h.t3 hd (by decide))]; exact h.t3, Below.trans h.new (ht.below (fun k e => e ▸ h.hx) h.new.size), h.hx⟩
theorem QP.made {w0 w : World} {x : Nat} {s : RS} (h : QP w0 w x s) :
    DS QdAt [(w0.heap.size, #[.int .i64 0, .int .i64 0, .int .i64 0, .int .i64 0, .slice none 0 0, .slice none 0 0, .int .i64 0, .int .i64 0, .string ByteArray.empty, .slice none 0 0], 69)] w0
      (w.alloc (.cells #[.int .i64 0, .int .i64 0, .int .i64 0, .int .i64 0, .slice none 0 0, .slice none 0 0, .int .i64 0, .int .i64 0, .string ⟨#[]⟩, .slice none 0 0] 69)) w.heap.size x rec0 (.slice none 0 0) (.slice none 0 0) (.slice none 0 0) s := by
  have hl := (Array.getElem?_eq_some_iff.1 h.t3).1
  have hn := (New.refl w).alloc #[.int .i64 0, .int .i64 0, .int .i64 0, .int .i64 0, .slice none 0 0, .slice none 0 0, .int .i64 0, .int .i64 0, .string ⟨#[]⟩, .slice none 0 0] 69
  obtain ⟨d, hd⟩ := qdLaw.typed h.rd
  refine ⟨heap_alloc_new w _, h.rd.new hn, fun p hp => ?_, Content.nil _, Content.nil _, World.ownsRow_nil _ _ _ _, h.new.trans hn, h.new.size, h.hx⟩
  rcases List.mem_singleton.1 hp with rfl
  exact ⟨by rw [Below.block hn _ hl]; exact h.t3, by show w0.heap.size ≠ w.heap.size; omega, type_ne h.t3 hd (by decide), by dsimp only; decide⟩
/-- Another record is laid last. -/
theorem DS.lastF {Rd : World → Nat → RS → Prop} {F : List (Nat × Array Value × TypeId)} {w0 w w' : World} {b x : Nat} {r : Rec} {bv av uv : Value} {s : RS} (h : DS Rd F w0 w b x r bv av uv s) {k : Nat} {c : Array Value} (hk : w.heap[k]? = some (.cells c 69 (0, 0))) (hk0 : w0.heap.size ≤ k) (ht : Turn (· = k) w w') : RecIn w' r bv av uv ∧ New w0 w' := by
  have hA := apart_of hk (by decide)
  exact ⟨⟨h.bef.turn ht hA, h.aft.turn ht hA, OpensIn.own (own_turn h.un ht (fun j hj e => own_ne h.un hk (by decide) (e ▸ hj)))⟩, Below.trans h.new (ht.below (fun k e => e ▸ hk0) h.new.size)⟩

/-- What the specification's Encode returns, in one sentence. -/
def REnc (n : Int) (r : Rec) (w : World) (e : Ending) (w' : World) : Prop :=
  ∃ p k c, ∃ er : Int, e = .returned (.tuple #[.slice p k c, .int .i64 er]) ∧ New w w' ∧ ((validB r && wi 1 n 1000000) = true → er = 0 ∧ Bytes w' (.slice p k c) (bytesOf (encB n r))) ∧ ((validB r && wi 1 n 1000000) = false → er = 2)
theorem decOk_none {l : List UInt8} {r : Rec} (h : decRec l = (r, none)) : decOk l = false := by simp [decOk, h]
theorem decOk_bad {l : List UInt8} {r : Rec} {s : RS} {n : Int} (h : decRec l = (r, s)) (hn : (decHead l).num = n) (hb : (validB r && wi 1 n 1000000) = false) : decOk l = false := by
  simp only [decOk, h, hn]
  simp only [Bool.and_eq_false_iff] at hb ⊢
  rcases hb with hb | hb
  · exact .inr hb
  · exact .inl (.inr hb)
theorem decOk_other {l : List UInt8} {r : Rec} {s : RS} {n : Int} (h : decRec l = (r, s)) (hn : (decHead l).num = n) (hb : encB n r ≠ l) : decOk l = false := by
  rw [← Bool.not_eq_true]
  intro hk
  simp only [decOk, Bool.and_eq_true, decide_eq_true_eq] at hk
  have := dec_enc hk.1.1.1 hk.1.1.2
  rw [hn, h] at this
  exact hb this
theorem decOk_same {l : List UInt8} {r : Rec} {n : Int} (hb : (validB r && wi 1 n 1000000) = true) (he : encB n r = l) : decOk l = true ∧ decRec l = (r, some []) ∧ (decHead l).num = n := by
  rw [Bool.and_eq_true, wi_iff] at hb
  obtain ⟨h1, h2⟩ := enc_dec hb.1 hb.2.1 hb.2.2
  rw [he] at h1 h2
  refine ⟨?_, h2, by rw [h1]⟩
  simp only [decOk, h2, h1, hb.1]
  have : wi 1 n 1000000 = true := by rw [wi_iff]; exact hb.2
  rw [this]; simp
theorem bytesOf_inj {a b : List UInt8} (h : bytesOf a = bytesOf b) : a = b := by
  have := congrArg (fun s : ByteArray => s.data.toList) h
  simpa [bytesOf] using this
theorem qd_bad {w : World} {x : Nat} {l : List UInt8} (h : QdAt w x (some l)) : w.cell? ⟨x, 1, none⟩ = some (.bool false) := by
  obtain ⟨v, bad, h1, _, rfl, _⟩ := h
  exact (qd_cells h1).2.1
theorem qd_bad_none {w : World} {x : Nat} (h : QdAt w x none) : w.cell? ⟨x, 1, none⟩ = some (.bool true) := by
  obtain ⟨v, bad, h1, _, rfl⟩ := h
  exact (qd_cells h1).2.1

end Go.Proofs.Ytdccbceaajnajaa
