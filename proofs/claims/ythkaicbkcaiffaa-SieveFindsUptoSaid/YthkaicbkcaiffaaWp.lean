/-
  planted, stands, count: the helpers of the laws without the document's answer. Conditions: none.
-/
import Derived.Test.YthkaicbkcaiffaaWd
import Derived.Deep.RegionLaw
namespace Go.Proofs.Ythkaicbkcaiffaa
open Go.RowKit

/-- The cells of a list of numbers of 16 bits. -/
def U16 (w : World) (ao : Option Addr) (l : List Nat) : Prop := 0 < l.length → ∃ b off, ao = some ⟨b, off, none⟩ ∧ b < w.heap.size ∧ ∀ i, i < l.length → w.cell? ⟨b, off + i, none⟩ = some (.int .u16 (l.getD i 0 : Nat))
theorem U16.below {w w' : World} {ao : Option Addr} {l : List Nat} (h : U16 w ao l) (hb : Below w.heap.size w w') : U16 w' ao l := by
  intro h0
  obtain ⟨b, off, h1, h2, h3⟩ := h h0
  exact ⟨b, off, h1, Nat.lt_of_lt_of_le h2 hb.size, fun i hi => (hb.cell (p := ⟨b, off + i, none⟩) h2).trans (h3 i hi)⟩
def PlRel (w : World) (g n : Nat) (_j : Nat) (wr : World) : Prop := Below w.heap.size w wr ∧ ∃ X, Blk wr g 5 (u8s X) ∧ X.length = n ∧ ∀ b ∈ X, b < 256
set_option maxRecDepth 100000 in
set_option maxHeartbeats 2000000 in
theorem planted_any {w : World} {ao po bo : Option Addr} {n c np pc m mc : Nat} {l ls : List Nat} {ps : List ByteArray} (hn : l.length = n) (hl : Byt w ao l) (hb : ∀ b ∈ l, b < 256) (hp : ps.length = np) (hps : Strs w po ps) (h0 : 0 < np)
    (hm : ls.length = m) (hls : U16 w bo ls) (hn2 : n ≤ 1048576) (hm2 : m ≤ 1048576) (hl16 : ∀ x ∈ ls, x < 65536) (hnp : np ≤ 256) :
    Calls Try.prog 36 #[.slice ao n c, .slice po np pc, .slice bo m mc] w fun e w' => ∃ g X, e = .returned (.slice (some ⟨g, 0, none⟩) n n) ∧ w.heap.size ≤ g ∧ Below w.heap.size w w' ∧ Blk w' g 5 (u8s X) ∧ X.length = n ∧ ∀ b ∈ X, b < 256 := by
  have C38 := Lib.hid (copied_any ao n c l hn hl (by omega))
  have HB := Lib.hid hb
  have HN := Lib.hid hn
  have HP := Lib.hid hp
  have HPS := Lib.hid hps
  have HM := Lib.hid hm
  have HLS := Lib.hid hls
  have H16 := Lib.hid hl16
  clear hl hb hn hp hps hm hls hl16
  go_enter Try.func36, Try.ntmps36
  go_wp2_with (go_at_call 38; refine C38.out.mono ?_; rintro e w1 ⟨rfl, hblk, hb1⟩; have HBK := Lib.hid hblk; have HB1 := Lib.hid hb1; clear hblk hb1)
  have hst := Lib.hid (show PlRel w w.heap.size n 0 w1 from ⟨HB1.out, l, HBK.out, HN.out, HB.out⟩)
  by_cases hn0 : n = 0
  · subst hn0
    refine wp_loop_rounds 1 ?_
    rw [rounds_succ]
    by_cases hm0 : m = 0
    · subst hm0
      go_wp2
      go_ret
      exact ⟨_, l, rfl, Nat.le_refl _, HB1.out, HBK.out, HN.out, HB.out⟩
    · have hm3 : decide ((0 : Int) < (m : Int)) = true := by simp; omega
      have hm4 : 0 < m := by omega
      go_wp2
      go_ret
      exact ⟨_, l, rfl, Nat.le_refl _, HB1.out, HBK.out, HN.out, HB.out⟩
  · have hn1 : 0 < n := by omega
    go_loopw [8] (fun i wr => ∃ j : Nat, j ≤ m ∧ i = .int .i64 (j : Int) ∧ PlRel w w.heap.size n j wr) (fun i _ => m - (intOf i).toNat)
    case atStart => exact ⟨0, by omega, rfl, hst.out⟩
    case round =>
      clear hst
      obtain ⟨j, hj, rfl, hB, X, hX, hXn, hXb⟩ := hrel
      by_cases hlt : j < m
      · obtain ⟨b, off, rfl, hbl, hc⟩ := (HLS.out.below hB) (by rw [HM.out]; omega)
        have cj := hc j (by rw [HM.out]; exact hlt)
        obtain ⟨a, ha⟩ : ∃ a, ls.getD j 0 = a := ⟨_, rfl⟩
        rw [ha] at cj
        have ha16 : a < 65536 := by
          rw [← ha]; simp only [List.getD, List.getElem?_eq_getElem (show j < ls.length by rw [HM.out]; exact hlt), Option.getD_some]; exact H16.out _ (List.getElem_mem _)
        have q0 : IntKind.i64.wrap (a : Int) = (a : Int) := IntWalk.i64_in _ (by omega)
        obtain ⟨pb, poff, rfl, hpb, hpc⟩ := (HPS.out.below hB) (by rw [HP.out]; exact h0)
        obtain ⟨i, hi⟩ : ∃ i, j % np = i := ⟨_, rfl⟩
        have hinp : i < np := by rw [← hi]; exact Nat.mod_lt _ h0
        have ck := hpc i (by rw [HP.out]; exact hinp)
        obtain ⟨s, hs⟩ : ∃ s, ps.getD i .empty = s := ⟨_, rfl⟩
        rw [hs] at ck
        obtain ⟨r, hr⟩ : ∃ r, a % n = r := ⟨_, rfl⟩
        have hrn : r < n := by rw [← hr]; exact Nat.mod_lt _ hn1
        obtain ⟨k, hk⟩ : ∃ k, min s.size (n - r) = k := ⟨_, rfl⟩
        obtain ⟨w2, hrun, hb2, hk2, hz2⟩ := copy_str (w := wr.drew) hX.drew r (n - r) (n - r) k s hk (by omega)
        have q1 : (a : Int) % (n : Int) = (r : Int) := by rw [← hr]; simp
        have q2 : (a : Int).tmod (n : Int) = (r : Int) := by rw [Int.tmod_eq_emod_of_nonneg (by omega)]; exact q1
        have q3 : (j : Int) % (np : Int) = (i : Int) := by rw [← hi]; simp
        have q4 : (j : Int).tmod (np : Int) = (i : Int) := by rw [Int.tmod_eq_emod_of_nonneg (by omega)]; exact q3
        have q5 : ((n : Int) == 0) = false := by simp; omega
        have q6 : ((np : Int) == 0) = false := by simp; omega
        have q7 : ¬ n = r := by omega
        have q8 : (i : Int) < (np : Int) := by omega
        have q9 : r ≤ n := by omega
        have q10 : ¬ np = 0 := by omega
        have q11 : ¬ n = 0 := hn0
        have HRel := Lib.hid (show PlRel w w.heap.size n (j + 1) w2 from ⟨hB.trans ⟨hk2.os, hk2.tape, hk2.output, hk2.size, fun q hq => hk2.block q (by have := hB.size; show _ < wr.heap.size; omega) (by omega)⟩, _, hb2, by
          rw [splice_len0]
          · exact hXn
          · rw [List.length_take, bts_len]; omega, fun b hb => by
          unfold splice at hb
          rcases List.mem_append.1 hb with h1 | h1
          · exact hXb b (List.mem_of_mem_take h1)
          · rcases List.mem_append.1 h1 with h2 | h2
            · exact bts_lt _ b (List.mem_of_mem_take h2)
            · exact hXb b (List.mem_of_mem_drop h2)⟩)
        have HRun := Lib.hid hrun
        clear hc hpc hb2 hk2 hz2 hrun hX hB hXb hXn ha hs hr hk hi
        go_upto_region 5 with fail
        go_region_law (first | (refine step_copy_run (by rfl) (.tmp 31) (.tmp 38) #[27, 9] (by rfl) _ _ _ _ (by rfl) (by rfl) HRun.out ?_))
        all_goals go_wp2_with fail
        all_goals (go_roundw; case measure => (simp [intOf]; omega))
        all_goals exact ⟨j + 1, by omega, by go_num, HRel.out⟩
      · obtain rfl : j = m := by omega
        go_wp2
        go_ret
        exact ⟨_, X, rfl, Nat.le_refl _, hB, hX, hXn, hXb⟩

set_option maxRecDepth 100000 in
set_option maxHeartbeats 2000000 in
/-- stands, where a hit is one. -/
theorem stands_any {w : World} {ao po : Option Addr} {n c np pc a k wd : Nat} {X : List Nat} {ps : List ByteArray} (hn : X.length = n) (hnc : n ≤ c) (hX : Byt w ao X) (hp : ps.length = np) (hps : Strs w po ps)
    (hk : k < np) (h0 : (ps.getD 0 .empty).size = wd) (hwd : 1 ≤ wd) (ha : a + wd ≤ n) (he : bts (ps.getD k .empty) = (X.drop a).take wd) (hn2 : n ≤ 1099511627776) (hnp : np ≤ 1048576) :
    Calls Try.prog 39 #[.slice ao n c, .agg #[.int .i64 (a : Int), .int .i64 (k : Int)], .slice po np pc] w fun e w' => e = .returned (.bool true) ∧ Below w.heap.size w w' := by
  obtain ⟨b, off, rfl, hb, hd⟩ := hX (by omega)
  obtain ⟨pb, poff, rfl, hpb, hpc⟩ := hps (by omega)
  have hdl : ((X.drop a).take wd).length = wd := by rw [List.length_take, List.length_drop, hn]; omega
  have hcv : ∀ (w' : World) (c' q : Nat), Below w.heap.size w w' → (convert 27 9 (.slice (some ⟨b, off + a, none⟩) wd c')).run Try.prog (w'.drewN q) = .ok (.string (ps.getD k .empty)) (w'.drewN q) := fun w' c' q hbw => by
    have h := conv_byt (w := w') (ao := some ⟨b, off + a, none⟩) (c := c') hdl (fun _ => ⟨b, off + a, rfl, Nat.lt_of_lt_of_le hb hbw.size, ((hd.below hbw hb).drop).take⟩) q
    rw [h]
    have : strN ((X.drop a).take wd) = ps.getD k .empty := by rw [← he]; exact (strN_eq (bts_lt _) _).2 rfl
    rw [this]
  have c0 := hpc 0 (by omega)
  rw [Nat.add_zero] at c0
  have c1 := hpc k (by omega)
  obtain ⟨s0, hs0⟩ : ∃ s0, ps.getD 0 .empty = s0 := ⟨_, rfl⟩
  obtain ⟨s1, hs1⟩ : ∃ s1, ps.getD k .empty = s1 := ⟨_, rfl⟩
  rw [hs0] at c0 h0
  rw [hs1] at c1
  have HCV := Lib.hid hcv
  subst h0
  clear hX hps hpc hd hdl he hs0 hcv hn hp
  rw [hs1] at HCV
  clear hs1
  go_enter Try.func39, Try.ntmps39
  have g1 : IntKind.i64.wrap ((a : Int) + (s0.size : Int)) = ((a + s0.size : Nat) : Int) := by rw [IntWalk.i64_in _ (by omega)]; omega
  have hnp0 : 0 < np := by omega
  have g2 : decide ((a : Int) + (s0.size : Int) ≤ (n : Int)) = true := by simp; omega
  have g3 : ((a : Int) + (s0.size : Int)).toNat = a + s0.size := by omega
  have g4 : ¬ c = a := by omega
  have g5 : (a : Int) + (s0.size : Int) ≤ (c : Int) := by omega
  have g6 : (k : Int) < (np : Int) := by omega
  have g7 : (0 : Int) ≤ (a : Int) + (s0.size : Int) := by omega
  have hal : Below w.heap.size w (w.alloc (.cells #[.int .i64 (a : Int), .int .i64 (k : Int)] 44)) := (Below.refl _ _).alloc (Nat.le_refl _) _
  have hcv2 := fun c' q => HCV.out _ c' q hal
  go_upto_region 1 with fail
  go_quiet (fail)
  go_wp2
  go_ret
  exact ⟨rfl, Below.drewN' hal _⟩
end Go.Proofs.Ythkaicbkcaiffaa
