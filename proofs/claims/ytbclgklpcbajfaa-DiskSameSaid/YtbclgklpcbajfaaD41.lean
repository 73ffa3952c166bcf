/- does at each act; same. -/
import Derived.Test.YtbclgklpcbajfaaD40
namespace Go.Proofs.Ytbclgklpcbajfaa
open Go.RowKit
set_option linter.unusedSimpArgs false
set_option linter.unusedVariables false

theorem does_any (w0 w : World) (b c : Nat) (ow oc : Option Nat) (A R : ADisk) (n : Nat) (x : Deed) (sp kp : Option Addr) (sc kc : Nat) (P : Pair w0 w b ow A c oc R) (L : Like A R) (M : Lim A n) (hn : n ≤ 1000)
    (hs : Bytes w (.slice sp x.bytes.size sc) x.bytes) (hk : Bools w (.slice kp x.keep.length kc) x.keep) (hso : 0 < x.bytes.size → ∀ k, (Value.slice sp x.bytes.size sc).ownBlock = some k → k < w0.heap.size) (hko : 0 < x.keep.length → ∀ k, (Value.slice kp x.keep.length kc).ownBlock = some k → k < w0.heap.size)
    (sb : x.bytes.size ≤ sc ∧ sc ≤ 2 ^ 63 - 1) (kb : x.keep.length ≤ kc ∧ kc ≤ 2 ^ 63 - 1) (hN : x.n ≤ 2 ^ 63 - 1) :
    Calls Try.prog 34 #[.pointer (some ⟨b, 0, none⟩), .pointer (some ⟨c, 0, none⟩), .agg (deedCells x sp kp sc kc)] w (DoesBack w0 w b ow c oc n) := by
  rcases kinds (IntKind.u64.wrap x.kind) with h | h | h | h | h | h | h | h
  · exact does_write w0 w b c ow oc A R n x sp kp sc kc P L M hn hs hk hso hko sb kb hN h
  · exact does_flush w0 w b c ow oc A R n x sp kp sc kc P L M hn hs hk hso hko sb kb hN h
  · exact does_arm w0 w b c ow oc A R n x sp kp sc kc P L M hn hs hk hso hko sb kb hN h
  · exact does_crash w0 w b c ow oc A R n x sp kp sc kc P L M hn hs hk hso hko sb kb hN h
  · exact does_start w0 w b c ow oc A R n x sp kp sc kc P L M hn hs hk hso hko sb kb hN h
  · exact does_lose w0 w b c ow oc A R n x sp kp sc kc P L M hn hs hk hso hko sb kb hN h
  · exact does_copy w0 w b c ow oc A R n x sp kp sc kc P L M hn hs hk hso hko sb kb hN h
  · exact does_none w0 w b c ow oc A R n x sp kp sc kc P L M hn hs hk hso hko sb kb hN h

set_option maxHeartbeats 2000000 in
set_option maxRecDepth 100000 in
theorem sameAct_any (w0 w : World) (b c : Nat) (ow oc : Option Nat) (A R : ADisk) (n : Nat) (m : Int) (P : Pair w0 w b ow A c oc R) (L : Like A R) (M : Lim A n) (hn : n ≤ 1000) :
    Calls Try.prog 36 #[.pointer (some ⟨b, 0, none⟩), .pointer (some ⟨c, 0, none⟩), .int .i64 m] w fun e w' => e = .returned (.bool true) ∧ New w w' := by
  have HP := hid P
  have HL := hid L
  have HM := hid M
  have F : Hid (A.waits.length ≤ 1000000000 ∧ R.waits.length ≤ 1000000000) := hid ⟨by have := M.waits; omega, by rw [L.waits]; have := M.waits; omega⟩
  clear P L M
  go_enter Try.func36, Try.ntmps36
  go_wp2_with fail
  refine (read_any b ow A m _ HP.out.disk HM.out.small F.out.1).mono ?_
  rintro e w2 ⟨v2, rfl, hv2, hn2⟩
  obtain ⟨⟨p2, k2, rfl, _, _, _⟩, _⟩ := id hv2
  have P2 := hid (HP.out.newer hn2)
  have HV2 := hid hv2
  have HN2 := hid hn2
  clear hv2 hn2
  go_wp2_with fail
  refine (refRead_any c oc R m _ P2.out.ref (HL.out.lim HM.out).small F.out.2).mono ?_
  rintro e w3 ⟨v3, rfl, hv3, hn3⟩
  rw [(HL.out.read m).1]
  rw [(HL.out.read m).2] at hv3
  obtain ⟨⟨p3, k3, rfl, _, _, _⟩, _⟩ := id hv3
  have P3 := hid (P2.out.newer hn3)
  have kc2 := Bytes.convert (P := Try.prog) (HV2.out.new hn3).1 22 5 9 Try.underlying22 Try.underlying5 Try.underlying9
  have kc3 := Bytes.convert (P := Try.prog) hv3.1 22 5 9 Try.underlying22 Try.underlying5 Try.underlying9
  have HN3 := hid (HN2.out.trans hn3)
  clear hv3 hn3 HV2
  go_wp2_with fail
  refine (down_any b ow A _ P3.out.disk).mono ?_
  rintro e w4 ⟨rfl, rfl⟩
  go_wp2_with fail
  refine (refDown_any c oc R _ P3.out.ref).mono ?_
  rintro e w4 ⟨rfl, rfl⟩
  rw [HL.out.down]
  go_wp2_with fail
  refine (waiting_any b ow A _ P3.out.disk).mono ?_
  rintro e w4 ⟨rfl, rfl⟩
  go_wp2_with fail
  refine (refWaiting_any c oc R _ P3.out.ref).mono ?_
  rintro e w4 ⟨rfl, rfl⟩
  rw [HL.out.waits]
  go_wp2_with fail
  refine (acts_any b ow A _ P3.out.disk).mono ?_
  rintro e w4 ⟨rfl, rfl⟩
  go_wp2_with fail
  refine (refActs_any c oc R _ P3.out.ref).mono ?_
  rintro e w4 ⟨rfl, rfl⟩
  rw [HL.out.acts]
  go_wp2_with fail
  refine (falls_any b ow A _ P3.out.disk).mono ?_
  rintro e w4 ⟨rfl, rfl⟩
  go_wp2_with fail
  refine (refFalls_any c oc R _ P3.out.ref).mono ?_
  rintro e w4 ⟨rfl, rfl⟩
  rw [HL.out.falls]
  go_wp2
  go_ret
  exact ⟨rfl, HN3.out⟩

end Go.Proofs.Ytbclgklpcbajfaa
