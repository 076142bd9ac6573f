/- Layer 5, plain: how many numbers a set has. -/
import Derived.Test.YtfdocckaobmgeaaDoorBE
set_option linter.unusedVariables false
set_option linter.unusedSimpArgs false
namespace Go.Proofs.YtfdocckaobmgeaaDoor.X
open Go Go.RowKit Go.Proofs.YtfdocckaobmgeaaDoor.SX
def pcN : Nat → Nat → Nat
  | 0, _ => 0
  | d + 1, x => x % 2 + pcN d (x / 2)
theorem pcN_add : ∀ (m d x : Nat), pcN (m + d) x = pcN m x + pcN d (x / 2 ^ m)
  | 0, d, x => by simp [pcN]
  | m + 1, d, x => by
    rw [show m + 1 + d = (m + d) + 1 from by omega, pcN, pcN, pcN_add m d, Nat.div_div_eq_div_mul, show 2 * 2 ^ m = 2 ^ (m + 1) from by rw [Nat.pow_succ, Nat.mul_comm]]
    omega
theorem pcN_mod : ∀ (m x : Nat), pcN m (x % 2 ^ m) = pcN m x
  | 0, x => rfl
  | m + 1, x => by
    rw [pcN, pcN, ← pcN_mod m (x / 2)]
    have h1 : x % 2 ^ (m + 1) % 2 = x % 2 := by rw [Nat.pow_succ, Nat.mul_comm, Nat.mod_mul_right_mod]
    have h2 : x % 2 ^ (m + 1) / 2 = x / 2 % 2 ^ m := by rw [Nat.pow_succ, Nat.mul_comm, Nat.mod_mul_right_div_self]
    rw [h1, h2]
theorem pcN_byte (d b r : Nat) (hb : b < 256) : pcN (8 + d) (b + 256 * r) = pcN 8 b + pcN d r := by
  rw [pcN_add, ← pcN_mod 8 (b + 256 * r), show 2 ^ 8 = 256 from rfl, show (b + 256 * r) % 256 = b from by omega, show (b + 256 * r) / 256 = r from by omega]
theorem and_split (x m M : Nat) (hm : m < 256) : x &&& (m + 256 * M) = (x % 256 &&& m) + 256 * ((x / 256) &&& M) := by
  have h1 : (x &&& (m + 256 * M)) % 2 ^ 8 = x % 2 ^ 8 &&& (m + 256 * M) % 2 ^ 8 := Nat.and_mod_two_pow
  have h2 : (x &&& (m + 256 * M)) / 2 ^ 8 = x / 2 ^ 8 &&& (m + 256 * M) / 2 ^ 8 := Nat.and_div_two_pow
  rw [show 2 ^ 8 = 256 from rfl] at h1 h2
  rw [show (m + 256 * M) % 256 = m from by omega] at h1
  rw [show (m + 256 * M) / 256 = M from by omega] at h2
  rw [← h1, ← h2]
  omega
def sA (M x : Nat) : Nat := (x / 2 &&& M) + (x &&& M)
def sB (M x : Nat) : Nat := (x / 4 &&& M) + (x &&& M)
def sC (M x : Nat) : Nat := (x / 16 + x) &&& M
theorem sA_low : ∀ b, b < 256 → ∀ q, q < 2 → ((b + 256 * q) / 2 % 256 &&& 85) = (b / 2 &&& 85) := by decide +kernel
theorem sB_low : ∀ b, b < 256 → ∀ q, q < 4 → ((b + 256 * q) / 4 % 256 &&& 51) = (b / 4 &&& 51) := by decide +kernel
theorem sA_byte (M b r : Nat) (hb : b < 256) : sA (85 + 256 * M) (b + 256 * r) = sA 85 b + 256 * sA M r := by
  unfold sA
  rw [and_split _ 85 M (by decide), and_split (b + 256 * r) 85 M (by decide)]
  have h := sA_low b hb (r % 2) (by omega)
  rw [show (b + 256 * (r % 2)) / 2 % 256 = (b + 256 * r) / 2 % 256 from by omega] at h
  rw [h, show (b + 256 * r) / 2 / 256 = r / 2 from by omega, show (b + 256 * r) % 256 = b from by omega, show (b + 256 * r) / 256 = r from by omega]
  omega
theorem sB_byte (M b r : Nat) (hb : b < 256) : sB (51 + 256 * M) (b + 256 * r) = sB 51 b + 256 * sB M r := by
  unfold sB
  rw [and_split _ 51 M (by decide), and_split (b + 256 * r) 51 M (by decide)]
  have h := sB_low b hb (r % 4) (by omega)
  rw [show (b + 256 * (r % 4)) / 4 % 256 = (b + 256 * r) / 4 % 256 from by omega] at h
  rw [h, show (b + 256 * r) / 4 / 256 = r / 4 from by omega, show (b + 256 * r) % 256 = b from by omega, show (b + 256 * r) / 256 = r from by omega]
  omega
theorem sC_low : ∀ b, b < 69 → b % 16 < 5 → ∀ q, q < 5 → ((b + 256 * q) / 16 + b) % 256 &&& 15 = (b / 16 + b) &&& 15 := by decide +kernel
theorem sC_byte (M b r : Nat) (hb : b < 69) (hb2 : b % 16 < 5) (hr : r % 16 < 5) : sC (15 + 256 * M) (b + 256 * r) = sC 15 b + 256 * sC M r := by
  unfold sC
  rw [and_split _ 15 M (by decide)]
  have h := sC_low b hb hb2 (r % 16) (by omega)
  rw [show ((b + 256 * (r % 16)) / 16 + b) % 256 = ((b + 256 * r) / 16 + (b + 256 * r)) % 256 from by omega] at h
  rw [h, show ((b + 256 * r) / 16 + (b + 256 * r)) / 256 = r / 16 + r from by omega]
theorem sAB_small : ∀ b, b < 256 → sA 85 b < 256 ∧ sB 51 (sA 85 b) < 69 ∧ sB 51 (sA 85 b) % 16 < 5 ∧ sC 15 (sB 51 (sA 85 b)) = pcN 8 b ∧ pcN 8 b ≤ 8 := by decide +kernel
/-- Three stages at once, byte by byte. -/
theorem sABC (M5 M3 M0 b r : Nat) (hb : b < 256) (hr : sB M3 (sA M5 r) % 16 < 5) :
    sB (51 + 256 * M3) (sA (85 + 256 * M5) (b + 256 * r)) % 16 < 5 ∧ sC (15 + 256 * M0) (sB (51 + 256 * M3) (sA (85 + 256 * M5) (b + 256 * r))) = pcN 8 b + 256 * sC M0 (sB M3 (sA M5 r)) := by
  obtain ⟨h1, h2, h3, h4, h5⟩ := sAB_small b hb
  rw [sA_byte M5 b r hb, sB_byte M3 _ _ h1, sC_byte M0 _ _ h2 h3 hr, h4]
  exact ⟨by omega, rfl⟩
end Go.Proofs.YtfdocckaobmgeaaDoor.X
