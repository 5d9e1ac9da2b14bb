/- Contract: kinlaw4.letters: two letters of a number. -/
import Derived.Test.YtdfeloeainabjaaDoorBase
import Derived.Test.YtdfeloeainabjaaDoorRows
import Derived.Deep.QuietTactic
import Derived.IntWalk
namespace Go.Proofs.YtdfeloeainabjaaDoor
open Go Go.RowKit

def abc : ByteArray := ⟨#[97, 98, 99, 100, 101, 102, 103, 104, 105, 106, 107, 108, 109, 110, 111, 112, 113, 114, 115, 116, 117, 118, 119, 120, 121, 122]⟩
def lettersB (n : Nat) : ByteArray := abc.extract (n / 26 % 26) (n / 26 % 26 + 1) ++ abc.extract (n % 26) (n % 26 + 1)
set_option maxHeartbeats 1000000 in
theorem letters_any (n : Nat) (w : World) (hn : n ≤ 1000) : Calls Tryd.prog 13 #[.int .i64 n] w fun e w' => e = .returned (.string (lettersB n)) ∧ Below w.heap.size w w' := by
  have hn' : (n : Int) ≤ 1000 := by omega
  have ha : (n : Int) / 26 % 26 = ((n / 26 % 26 : Nat) : Int) := by omega
  have hb : (n : Int) % 26 = ((n % 26 : Nat) : Int) := by omega
  have HA := Lib.hid ha
  have HB := Lib.hid hb
  have a1 : n / 26 % 26 < 26 := Nat.mod_lt _ (by omega)
  have b1 : n % 26 < 26 := Nat.mod_lt _ (by omega)
  have HL : Hid (lettersB n = abc.extract (n / 26 % 26) (n / 26 % 26 + 1) ++ abc.extract (n % 26) (n % 26 + 1)) := rfl
  clear ha hb
  go_enter Tryd.func13, Tryd.ntmps13
  go_wp2_with fail
  rw [HA.out, HB.out]
  generalize n / 26 % 26 = a at *
  generalize n % 26 = b at *
  clear HA HB
  have ha1 : (a : Int) < 26 := by omega
  have hb1 : (b : Int) < 26 := by omega
  have ha2 : (0 : Int) ≤ (a : Int) := by omega
  have hb2 : (0 : Int) ≤ (b : Int) := by omega
  have w1 : IntKind.i64.wrap ((a : Int) + 1) = (a : Int) + 1 := IntWalk.i64_in _ (by omega)
  have w2 : IntKind.i64.wrap ((b : Int) + 1) = (b : Int) + 1 := IntWalk.i64_in _ (by omega)
  have a3 : (0 : Int) ≤ (a : Int) + 1 := by omega
  have b3 : (0 : Int) ≤ (b : Int) + 1 := by omega
  have a4 : ((a : Int) + 1).toNat = a + 1 := by omega
  have b4 : ((b : Int) + 1).toNat = b + 1 := by omega
  have a5 : (a : Int) + 1 ≤ 26 := by omega
  have b5 : (b : Int) + 1 ≤ 26 := by omega
  have a6 : (a : Int) ≤ (a : Int) + 1 := by omega
  have b6 : (b : Int) ≤ (b : Int) + 1 := by omega
  go_quiet (fail)
  go_wp2_with fail
  go_ret
  refine ⟨?_, below_drewN (Below.refl _ _) _⟩
  rw [HL.out]
  rfl
end Go.Proofs.YtdfeloeainabjaaDoor
