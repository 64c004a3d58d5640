import Derived.Test.YtcddcodambeljaaDoorProg
import Derived.Test.YtcddcodambeljaaDoorMath
import Derived.Test.YtcddcodambeljaaDoorH
import Derived.WalkKit
import Derived.WalkLawsBesides
import Derived.Outline
import Derived.Deep.QuietTactic
import Derived.BigQuiet
import Derived.Laws.BitsLemmas
namespace Go.Proofs.YtcddcodambeljaaDoor
open Go.RowKit
open CrcMath (stepb hs H run crc top)

def halves : List Nat := [0, 498536548, 997073096, 651767980, 1994146192, 1802195444, 1303535960, 1342533948, 3988292384, 4027552580, 3604390888, 3412177804, 2607071920, 2262029012, 2685067896, 3183342108]
theorem halves_H : ∀ i, i < 16 → halves.getD i 0 = H i := by decide
theorem halves_lt (i : Nat) : halves.getD i 0 < 4294967296 := by
  by_cases h : i < 16
  · revert i; decide
  · have e : halves.getD i 0 = 0 := by simp [halves, List.getD, List.getElem?_eq_none (show [0, 498536548, 997073096, 651767980, 1994146192, 1802195444, 1303535960, 1342533948, 3988292384, 4027552580, 3604390888, 3412177804, 2607071920, 2262029012, 2685067896, 3183342108].length ≤ i by simpa using h)]
    rw [e]; decide

def TableAt (w : World) : Prop := ∀ i, i < 16 → w.cell? ⟨0, i, none⟩ = some (.int .u32 (halves.getD i 0 : Nat))

theorem wraps_u32 (n : Int) (h₀ : 0 ≤ n) (h₁ : n < 2 ^ 32) : IntKind.u32.wrap n = n := by rw [IntKind.wrap_u32]; omega
theorem bits_xor (k : IntKind) (j : Nat) (hj : j ≤ k.bits) (hk : ∀ n : Int, 0 ≤ n → n < 2 ^ j → k.wrap n = n) (a b : Nat) (ha : a < 2 ^ j) (hb : b < 2 ^ j) :
    bits .xor k a b = ((a ^^^ b : Nat) : Int) := by
  have hp : 2 ^ j ≤ 2 ^ k.bits := Nat.pow_le_pow_right (by decide) hj
  have ha' : a % 2 ^ k.bits = a := Nat.mod_eq_of_lt (Nat.lt_of_lt_of_le ha hp)
  have hb' : b % 2 ^ k.bits = b := Nat.mod_eq_of_lt (Nat.lt_of_lt_of_le hb hp)
  have cast : ∀ n : Nat, n < 2 ^ j → ((n : Nat) : Int) < 2 ^ j := fun n h => by exact_mod_cast h
  simp only [bits, BitVec.ofInt_natCast, BitVec.toNat_xor, BitVec.toNat_ofNat, ha', hb']
  exact hk _ (Int.natCast_nonneg _) (cast _ (Nat.xor_lt_two_pow ha hb))
theorem xor_u32 (a b : Nat) (ha : a < 4294967296) (hb : b < 4294967296) : bits BinOp.xor .u32 (a : Int) (b : Int) = ((a ^^^ b : Nat) : Int) := by
  exact bits_xor .u32 32 (by decide) wraps_u32 a b ha hb
theorem and15_u32 (a : Nat) (ha : a < 4294967296) : bits BinOp.and .u32 (a : Int) 15 = ((a % 16 : Nat) : Int) := by
  have := (bits_nat .u32 32 (by decide) wraps_u32 a 15 ha (by decide)).1
  rw [show ((15 : Nat) : Int) = 15 from rfl] at this
  rw [this, Nat.and_two_pow_sub_one_eq_mod a 4]

theorem hs_lt {c : Nat} (h : c < 4294967296) : hs c < 4294967296 := by
  rw [CrcMath.hs_Z]; exact CrcMath.Zn_lt 4 (n := c) h

set_option maxHeartbeats 400000 in
theorem crc_some (b off cap : Nat) (l : List Nat) (w : World) (hl : l.length ≤ maxLen) (hb : ∀ i, l.getD i 0 < 256) (HC : ByteCells w b off l) (T : TableAt w) :
    Calls Tryd.prog 4 #[.slice (some ⟨b, off, none⟩) l.length cap] w fun e w' => e = .returned (.int .u32 (crc l)) ∧ w' = w := by
  unfold maxLen at hl
  go_enter Tryd.func4, Tryd.ntmps4
  go_wp2
  go_loop [3, 8] (fun c i => ∃ k n : Nat, k ≤ l.length ∧ i = .int .i64 k ∧ c = .int .u32 n ∧ n < 4294967296 ∧ crc l = run n (l.drop k) ^^^ top) (fun _ i => l.length - (intOf i).toNat)
  case atStart => exact ⟨0, 4294967295, by omega, rfl, rfl, by omega, rfl⟩
  case round =>
    obtain ⟨k, n, h1, rfl, rfl, hn, hrun⟩ := hrel
    by_cases hlt : k < l.length
    · obtain ⟨x, hx, c0, hd⟩ : ∃ x : Nat, x < 256 ∧ w.cell? ⟨b, off + k, none⟩ = some (.int .u8 x) ∧ l.drop k = x :: l.drop (k + 1) :=
        ⟨l.getD k 0, hb k, HC k hlt, by rw [List.drop_eq_getElem_cons hlt]; simp [List.getD, hlt]⟩
      have e0 : ((x : Int) % 4294967296) = x := by omega
      obtain ⟨y, hy, ey⟩ : ∃ y, y < 4294967296 ∧ y = n ^^^ x := ⟨_, Nat.xor_lt_two_pow (n := 32) hn (by omega), rfl⟩
      have e1 : bits BinOp.xor .u32 (n : Int) (x : Int) = (y : Int) := by rw [ey]; exact xor_u32 n x hn (by omega)
      have e2 := and15_u32 y hy
      have c1 := T (y % 16) (by omega)
      obtain ⟨t1, ht1, et1⟩ : ∃ t, t < 4294967296 ∧ t = halves.getD (y % 16) 0 := ⟨_, halves_lt _, rfl⟩
      rw [← et1] at c1
      obtain ⟨z, hz, ez⟩ : ∃ z, z < 4294967296 ∧ z = y / 16 ^^^ t1 := ⟨_, Nat.xor_lt_two_pow (n := 32) (by omega) ht1, rfl⟩
      have e3 : bits BinOp.xor .u32 ((y : Int) / 16) (t1 : Int) = (z : Int) := by rw [ez, ← xor_u32 (y / 16) t1 (by omega) ht1]; rfl
      have e4 := and15_u32 z hz
      have c2 := T (z % 16) (by omega)
      obtain ⟨t2, ht2, et2⟩ : ∃ t, t < 4294967296 ∧ t = halves.getD (z % 16) 0 := ⟨_, halves_lt _, rfl⟩
      rw [← et2] at c2
      obtain ⟨u, hu, eu⟩ : ∃ u, u < 4294967296 ∧ u = z / 16 ^^^ t2 := ⟨_, Nat.xor_lt_two_pow (n := 32) (by omega) ht2, rfl⟩
      have e5 : bits BinOp.xor .u32 ((z : Int) / 16) (t2 : Int) = (u : Int) := by rw [eu, ← xor_u32 (z / 16) t2 (by omega) ht2]; rfl
      have HU : Hid (u = stepb n x) := by
        show u = stepb n x
        rw [eu, et2, halves_H _ (by omega), stepb, ← ey]
        have : z = hs y := by rw [ez, et1, halves_H _ (by omega)]; rfl
        rw [← this]; rfl
      have HR : Hid (crc l = run u (l.drop (k + 1)) ^^^ top) := by
        show crc l = run u (l.drop (k + 1)) ^^^ top
        rw [HU.out, hrun, hd]; rfl
      have y0 : (0 : Int) ≤ (y % 16 : Nat) := by omega
      have z0 : (0 : Int) ≤ (z % 16 : Nat) := by omega
      have y1 : ((y % 16 : Nat) : Int) < 16 := by omega
      have z1 : ((z % 16 : Nat) : Int) < 16 := by omega
      clear HC hb T hd ey et1 ez et2 eu hrun
      go_wp2
      go_round
      case rel => exact ⟨k + 1, u, by omega, by go_num, rfl, hu, HR.out⟩
      case measure => simp [intOf]; omega
    · have HR : Hid (crc l = run n (l.drop k) ^^^ top) := hrun
      clear hrun
      have : k = l.length := by omega
      subst this
      go_wp2
      go_ret
      refine ⟨ret_int ?_, rfl⟩
      show bits BinOp.xor .u32 ((4294967295 : Nat) : Int) (n : Int) = _
      rw [HR.out, List.drop_length, xor_u32 4294967295 n (by decide) hn, Nat.xor_comm]
      rfl
end Go.Proofs.YtcddcodambeljaaDoor
