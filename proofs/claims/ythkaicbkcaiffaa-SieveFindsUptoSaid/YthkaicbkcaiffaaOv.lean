import Derived.Test.YthkaicbkcaiffaaH
import Derived.StillTailTactics
import Derived.Deep.CutRange
import Derived.Lib.Hide
import Derived.WalkKit
import Derived.WalkLawsBesides
import Derived.Outline
import Derived.Deep.QuietTactic
import Derived.BigQuiet
namespace Go.Proofs.Ythkaicbkcaiffaa
open Go.RowKit

/-- Is b - a, as a whole number, below wd? -/
def nearB (a b wd : Int) : Bool := decide (b - a < wd)
def in64 (a : Int) : Prop := -9223372036854775808 ≤ a ∧ a ≤ 9223372036854775807

set_option maxHeartbeats 400000 in
theorem near_any (a b wd : Int) (w : World) (ha : in64 a) (hb : in64 b) (hw : in64 wd) :
    Calls Try.prog 59 #[.int .i64 a, .int .i64 b, .int .i64 wd] w fun e w' => e = .returned (.bool (nearB a b wd)) ∧ w' = w := by
  go_enter Try.func59, Try.ntmps59
  go_wp2
  all_goals go_ret
  all_goals refine ⟨ret_bool ?_, rfl⟩
  all_goals unfold nearB wrap64 in64 at *
  · symm; simp; omega
  · by_cases h : b - a < wd <;> simp [h] <;> omega
  · symm; simp; omega
  · by_cases h : b - a < wd <;> simp [h] <;> omega

/-- The cells of a list of hits. -/
structure Hits (w : World) (b off : Nat) (n : Nat) (A W : Nat → Int) : Prop where
  at_ : ∀ i, i < n → w.cell? ⟨b, off + i * 2, none⟩ = some (.int .i64 (A i))
  wh : ∀ i, i < n → w.cell? ⟨b, off + i * 2 + 1, none⟩ = some (.int .i64 (W i))
  inA : ∀ i, i < n → in64 (A i)

def IsOv (A : Nat → Int) (n : Nat) (wd r : Int) : Prop :=
  (r = -1 ∧ ∀ j, 1 ≤ j → j < n → nearB (A (j - 1)) (A j) wd = false) ∨ (∃ i : Nat, r = i ∧ 1 ≤ i ∧ i < n ∧ nearB (A (i - 1)) (A i) wd = true ∧ ∀ j, 1 ≤ j → j < i → nearB (A (j - 1)) (A j) wd = false)

theorem ov_step {A : Nat → Int} {wd : Int} {k : Nat} (hj : ∀ j, 1 ≤ j → j < k → nearB (A (j - 1)) (A j) wd = false) (h : nearB (A (k - 1)) (A k) wd = false) :
    ∀ j, 1 ≤ j → j < k + 1 → nearB (A (j - 1)) (A j) wd = false := by
  intro j h1 h2
  by_cases e : j = k
  · subst e; exact h
  · exact hj j h1 (by omega)

def OvPost (A : Nat → Int) (n : Nat) (wd : Int) (w : World) (e : Ending) (w' : World) : Prop := ∃ r, e = .returned (.int .i64 r) ∧ IsOv A n wd r ∧ ∃ m, w' = w.drewN m

set_option maxHeartbeats 400000 in
theorem overlap_any (b off n cap : Nat) (A W : Nat → Int) (wd : Int) (w : World) (hn : n ≤ maxLen) (hwd : in64 wd) (H : Hits w b off n A W) :
    Calls Try.prog 14 #[.slice (some ⟨b, off, none⟩) n cap, .int .i64 wd] w (OvPost A n wd w) := by
  unfold maxLen at hn
  go_enter Try.func14, Try.ntmps14
  go_wp2
  go_loopw [5] (fun i wr => ∃ k : Nat, 1 ≤ k ∧ (k ≤ n ∨ k = 1) ∧ i = .int .i64 k ∧ (∀ j, 1 ≤ j → j < k → nearB (A (j - 1)) (A j) wd = false) ∧ ∃ m, wr = w.drewN m) (fun i _ => n + 1 - (intOf i).toNat)
  case atStart => exact ⟨1, by omega, by omega, rfl, by omega, 0, rfl⟩
  case round =>
    obtain ⟨k, h1, h2, rfl, hj, m, rfl⟩ := hrel
    by_cases hlt : k < n
    · have c1 := H.at_ k hlt
      have c0 := H.at_ (k - 1) (by omega)
      have e1 : IntKind.i64.wrap ((k : Int) - 1) = (k : Int) - 1 := IntWalk.i64_in _ (by omega) 
      have e2 : ((k : Int) - 1).toNat = k - 1 := by omega
      have e3 : (0 : Int) ≤ (k : Int) - 1 := by omega
      have e4 : (k : Int) - 1 < (n : Int) := by omega
      have hA := H.inA k hlt
      have hB := H.inA (k - 1) (by omega)
      clear H
      go_wp2
      go_quiet (fail)
      go_wp2
      all_goals unfold in64 at hA hB hwd
      all_goals first
        | (go_ret
           exact ⟨k, rfl, .inr ⟨k, rfl, h1, hlt, by (unfold nearB; simp only [wrap64] at *; simp; omega), hj⟩, _, rfl⟩)
        | (go_roundw
           case rel => exact ⟨k + 1, by omega, by omega, by go_num, ov_step hj (by unfold nearB; simp only [wrap64] at *; simp; omega), _, rfl⟩
           case measure => simp [intOf]; omega)
    · go_wp2
      go_ret
      exact ⟨-1, rfl, .inl ⟨rfl, fun j a b => hj j a (by omega)⟩, m, rfl⟩

set_option maxHeartbeats 400000 in
theorem refOverlap_any (b off n cap : Nat) (A W : Nat → Int) (wd : Int) (w : World) (hn : n ≤ maxLen) (hwd : in64 wd) (H : Hits w b off n A W) :
    Calls Try.prog 15 #[.slice (some ⟨b, off, none⟩) n cap, .int .i64 wd] w (OvPost A n wd w) := by
  unfold maxLen at hn
  go_enter Try.func15, Try.ntmps15
  go_wp2
  go_loopw [5] (fun i wr => ∃ k : Nat, 1 ≤ k ∧ (k ≤ n ∨ k = 1) ∧ i = .int .i64 k ∧ (∀ j, 1 ≤ j → j < k → nearB (A (j - 1)) (A j) wd = false) ∧ ∃ m, wr = w.drewN m) (fun i _ => n + 1 - (intOf i).toNat)
  case atStart => exact ⟨1, by omega, by omega, rfl, by omega, 0, rfl⟩
  case round =>
    obtain ⟨k, h1, h2, rfl, hj, m, rfl⟩ := hrel
    by_cases hlt : k < n
    · have c1 := H.at_ k hlt
      have c0 := H.at_ (k - 1) (by omega)
      have e1 : IntKind.i64.wrap ((k : Int) - 1) = (k : Int) - 1 := IntWalk.i64_in _ (by omega)
      have e2 : ((k : Int) - 1).toNat = k - 1 := by omega
      have e3 : (0 : Int) ≤ (k : Int) - 1 := by omega
      have e4 : (k : Int) - 1 < (n : Int) := by omega
      have hA := H.inA k hlt
      have hB := H.inA (k - 1) (by omega)
      clear H
      have CN := Lib.hid (fun wx => near_any (A (k - 1)) (A k) wd wx hB hA hwd)
      cases hN : nearB (A (k - 1)) (A k) wd
      all_goals
        rw [hN] at CN
        have HN := Lib.hid hN
        clear hN
        go_wp2_with (go_at_call 59; refine (CN.out _).mono ?_; rintro e w' ⟨rfl, rfl⟩)
      · go_roundw
        case rel => exact ⟨k + 1, by omega, by omega, by go_num, ov_step hj HN.out, _, rfl⟩
        case measure => simp [intOf]; omega
      · go_ret
        exact ⟨k, rfl, .inr ⟨k, rfl, h1, hlt, HN.out, hj⟩, _, rfl⟩
    · go_wp2
      go_ret
      exact ⟨-1, rfl, .inl ⟨rfl, fun j a b => hj j a (by omega)⟩, m, rfl⟩
theorem IsOv.unique {A : Nat → Int} {n : Nat} {wd r r' : Int} (h : IsOv A n wd r) (h' : IsOv A n wd r') : r = r' := by
  rcases h with ⟨rfl, h⟩ | ⟨i, rfl, h1, h2, h3, h4⟩ <;> rcases h' with ⟨rfl, h'⟩ | ⟨j, rfl, k1, k2, k3, k4⟩
  · rfl
  · rw [h j k1 k2] at k3; cases k3
  · rw [h' i h1 h2] at h3; cases h3
  · have : i = j := by
      rcases Nat.lt_trichotomy i j with hl | hl | hl
      · rw [k4 i h1 hl] at h3; cases h3
      · exact hl
      · rw [h4 j k1 hl] at k3; cases k3
    rw [this]
end Go.Proofs.Ythkaicbkcaiffaa
