/-
  count: how many places have a pattern. Conditions: none.
-/
import Derived.Test.YthkaicbkcaiffaaWp
namespace Go.Proofs.Ythkaicbkcaiffaa
open Go.RowKit

/-- How many of the first k patterns are this. -/
def cntW (ps : List ByteArray) (win : List Nat) (k : Nat) : Nat := (ps.take k).countP fun s => bts s == win
theorem cntW_succ {ps : List ByteArray} {win : List Nat} {k : Nat} (hk : k < ps.length) : cntW ps win (k + 1) = cntW ps win k + if bts (ps.getD k .empty) = win then 1 else 0 := by
  unfold cntW
  rw [take_snoc_b hk, List.countP_append]
  congr 1
  simp [List.countP_cons]
theorem cntW_all {ps : List ByteArray} (hd : (ps.map bts).Nodup) (wd i : Nat) (X : List Nat) : cntW ps ((X.drop i).take wd) ps.length = (hitOf (i : Int) (headK (ps.map bts) wd (X.drop i))).length := by
  unfold cntW headK
  rw [List.take_length]
  generalize (X.drop i).take wd = win
  have e : ps.countP (fun s => bts s == win) = (ps.map bts).count win := by
    rw [List.count, List.countP_map]; rfl
  rw [e]
  have h1 := List.nodup_iff_count.1 hd win
  cases hq : (ps.map bts).findIdx? (fun p => p == win) with
  | some k =>
    obtain ⟨h2, h3, _⟩ := List.findIdx?_eq_some_iff_getElem.1 hq
    have hm : win ∈ ps.map bts := by
      have : (ps.map bts)[k] = win := by simpa using h3
      rw [← this]; exact List.getElem_mem _
    have := List.count_pos_iff.2 hm
    simp only [hitOf, List.length_singleton]; omega
  | none =>
    have hm : win ∉ ps.map bts := fun hm => by
      have := List.findIdx?_eq_none_iff.1 hq win hm
      simp at this
    simp only [hitOf, List.length_nil]
    exact List.count_eq_zero.2 hm
theorem cntW_le (ps : List ByteArray) (win : List Nat) (k : Nat) : cntW ps win k ≤ k := by
  unfold cntW; exact Nat.le_trans List.countP_le_length (List.length_take_le _ _)

set_option maxRecDepth 100000 in
set_option maxHeartbeats 2000000 in
theorem count_any {w : World} {ao po : Option Addr} {n c np pc wd : Nat} {X : List Nat} {ps : List ByteArray} (hn : X.length = n) (hnc : n ≤ c) (hX : Byt w ao X) (hXb : ∀ b ∈ X, b < 256) (hp : ps.length = np) (hps : Strs w po ps) (h0 : 0 < np)
    (hsz : (ps.getD 0 .empty).size = wd) (hwd : 1 ≤ wd) (hwd2 : wd ≤ 64) (hnd : (ps.map bts).Nodup) (hn2 : n ≤ 1099511627776) (hnp : np ≤ 4096) :
    Calls Try.prog 40 #[.slice ao n c, .slice po np pc] w fun e w' => e = .returned (.int .i64 ((refHits (ps.map bts) wd X (n + 1 - wd)).length : Int)) ∧ ∃ q, w' = w.drewN q := by
  obtain ⟨pb, poff, rfl, hpb, hpc⟩ := hps (by omega)
  have c0 := hpc 0 (by omega)
  rw [Nat.add_zero] at c0
  obtain ⟨s0, hs0⟩ : ∃ s0, ps.getD 0 .empty = s0 := ⟨_, rfl⟩
  rw [hs0] at c0 hsz
  have HN := Lib.hid hn
  have HX := Lib.hid hX
  have HXB := Lib.hid hXb
  have HP := Lib.hid hp
  have HPC := Lib.hid hpc
  have HND := Lib.hid hnd
  have HW := Lib.hid hsz
  have hw1 : 1 ≤ s0.size := by omega
  have hw64 : s0.size ≤ 64 := by omega
  clear hn hX hXb hp hpc hnd hs0 hsz
  go_enter Try.func40, Try.ntmps40
  go_wp2
  go_loopw [5, 6] (fun cv i wr => ∃ (j q : Nat), j ≤ n + 1 - s0.size ∧ i = .int .i64 (j : Int) ∧ cv = .int .i64 ((refHits (ps.map bts) wd X j).length : Int) ∧ wr = w.drewN q) (fun _ i _ => n + 1 - (intOf i).toNat)
  case atStart => exact ⟨0, 0, by omega, rfl, rfl, rfl⟩
  case round =>
    obtain ⟨j, q, hj, rfl, rfl, rfl⟩ := hrel
    have hlen := refHits_len (ps.map bts) wd X j
    obtain ⟨M, hM⟩ : ∃ M, (refHits (ps.map bts) wd X j).length = M := ⟨_, rfl⟩
    rw [hM] at hlen
    by_cases hlt : j + s0.size ≤ n
    · have hsucc : (refHits (ps.map bts) wd X (j + 1)).length = M + cntW ps ((X.drop j).take wd) np := by
        rw [refHits_succ, List.length_append, hM, ← HP.out, cntW_all HND.out]
      have HS := Lib.hid hsucc
      have HM := Lib.hid hM
      have hb1 : decide ((j : Int) + (s0.size : Int) ≤ (n : Int)) = true := by simp; omega
      rw [hM]
      clear hM hsucc
      go_wp2
      go_loopw [5, 7] (fun cv i wr => ∃ (k q' : Nat), k ≤ np ∧ i = .int .i64 (k : Int) ∧ cv = .int .i64 ((M + cntW ps ((X.drop j).take wd) k : Nat) : Int) ∧ wr = w.drewN q') (fun _ i _ => np - (intOf i).toNat)
      case atStart => exact ⟨0, q, by omega, rfl, by simp [cntW], rfl⟩
      case round =>
        obtain ⟨k, q', hk, rfl, rfl, rfl⟩ := hrel
        have hcle := cntW_le ps ((X.drop j).take wd) k
        by_cases hlt2 : k < np
        · have hcs := cntW_succ (win := (X.drop j).take wd) (show k < ps.length by rw [HP.out]; exact hlt2)
          obtain ⟨C, hC⟩ : ∃ C, cntW ps ((X.drop j).take wd) k = C := ⟨_, rfl⟩
          rw [hC] at hcs hcle
          obtain ⟨b, off, rfl, hb, hd⟩ := HX.out (by rw [HN.out]; omega)
          have c1 := HPC.out k (by rw [HP.out]; exact hlt2)
          obtain ⟨s1, hs1⟩ : ∃ s1, ps.getD k .empty = s1 := ⟨_, rfl⟩
          rw [hs1] at c1 hcs
          have hdl : ((X.drop j).take wd).length = s0.size := by have hw := HW.out; rw [List.length_take, List.length_drop, HN.out]; omega
          have hwb : ∀ x ∈ (X.drop j).take wd, x < 256 := fun x hx => HXB.out x (List.mem_of_mem_drop (List.mem_of_mem_take hx))
          obtain ⟨z, hz⟩ : ∃ z, strN ((X.drop j).take wd) = z := ⟨_, rfl⟩
          have hcv : ∀ c' q, (convert 27 9 (.slice (some ⟨b, off + j, none⟩) s0.size c')).run Try.prog (w.drewN q) = .ok (.string z) (w.drewN q) := fun c' q => by
            rw [← hz]; exact conv_byt (w := w) (ao := some ⟨b, off + j, none⟩) (c := c') hdl (fun _ => ⟨b, off + j, rfl, hb, (hd.drop).take⟩) q
          have g1 : IntKind.i64.wrap ((j : Int) + (s0.size : Int)) = (j : Int) + (s0.size : Int) := IntWalk.i64_in _ (by omega)
          have g3 : ((j : Int) + (s0.size : Int)).toNat = j + s0.size := by omega
          have g4 : ¬ c = j := by omega
          have g5 : (j : Int) + (s0.size : Int) ≤ (c : Int) := by omega
          have g6 : (k : Int) < (np : Int) := by omega
          have g7 : (0 : Int) ≤ (j : Int) + (s0.size : Int) := by omega
          have hzb : bts z = (X.drop j).take wd := by rw [← hz]; exact bts_strN hwb
          rw [hC]
          by_cases heq : z = s1
          · have hcs2 := Lib.hid (show cntW ps ((X.drop j).take wd) (k + 1) = C + 1 by rw [hcs, if_pos (by rw [← heq, hzb])])
            subst heq
            clear hcs hC hs1 hd hdl hwb hz hzb
            go_upto_region 8 with fail
            go_quiet (fail)
            go_wp2
            go_roundw
            case rel => exact ⟨k + 1, _, by omega, by go_num, by rw [hcs2.out]; go_num, rfl⟩
            case measure => simp [intOf]; omega
          · have hcs2 := Lib.hid (show cntW ps ((X.drop j).take wd) (k + 1) = C by rw [hcs, if_neg (fun e => heq (bts_inj (by rw [hzb, e])))]; rfl)
            have heq2 := bytes_ne heq
            clear hcs hC hs1 hd hdl hwb hz hzb
            go_upto_region 8 with fail
            go_quiet (fail)
            go_wp2
            go_roundw
            case rel => exact ⟨k + 1, _, by omega, by go_num, by rw [hcs2.out], rfl⟩
            case measure => simp [intOf]; omega
        · obtain rfl : k = np := by omega
          rw [← HS.out]
          obtain ⟨M2, hM2⟩ : ∃ M2, (refHits (ps.map bts) wd X (j + 1)).length = M2 := ⟨_, rfl⟩
          have HM2 := Lib.hid hM2
          rw [hM2]
          clear hM2
          go_wp2
          go_roundw
          case rel => exact ⟨j + 1, _, by omega, by go_num, by rw [HM2.out], rfl⟩
          case measure => simp [intOf]; omega
    · obtain rfl : j = n + 1 - s0.size := by omega
      have HM := Lib.hid hM
      rw [hM]
      have hb1 : decide (((n + 1 - s0.size : Nat) : Int) + (s0.size : Int) ≤ (n : Int)) = false := by simp; omega
      clear hM
      go_wp2
      go_ret
      exact ⟨ret_int (by have h2 := HM.out; rw [HW.out] at h2; rw [h2]), _, rfl⟩
end Go.Proofs.Ythkaicbkcaiffaa
