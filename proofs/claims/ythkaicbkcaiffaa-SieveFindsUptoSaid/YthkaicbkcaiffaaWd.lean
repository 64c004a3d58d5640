/-
  words: a sieve's patterns made of any texts. Conditions: none.
-/
import Derived.Test.YthkaicbkcaiffaaCp
import Derived.Test.YthkaicbkcaiffaaLb
import Derived.Test.YthkaicbkcaiffaaY
import Derived.WalkSpells
namespace Go.Proofs.Ythkaicbkcaiffaa
open Go.RowKit

theorem and_nat (x : Int) (k : Nat) (hk : k < 4611686018427387904) : ∃ v : Nat, v ≤ k ∧ bits .and .i64 x (k : Int) = (v : Int) := by
  refine ⟨(BitVec.ofInt 64 x).toNat &&& k, Nat.and_le_right, ?_⟩
  have h : (BitVec.ofInt 64 x).toNat &&& k ≤ k := Nat.and_le_right
  show IntKind.i64.wrap (((BitVec.ofInt 64 x) &&& (BitVec.ofInt 64 (k : Int))).toNat : Int) = _
  rw [BitVec.toNat_and, BitVec.ofInt_natCast, BitVec.toNat_ofNat, Nat.mod_eq_of_lt (a := k) (by omega)]
  exact IntWalk.i64_in _ (by omega)
/-- A word: cut or filled up with zeros, its number at the end. -/
def wordOf (wd i : Nat) (s : ByteArray) : List Nat := (splice (List.replicate wd 0) 0 ((bts s).take (min s.size wd))).set (wd - 1) i
theorem splice_len0 {X l : List Nat} (o : Nat) (h : o + l.length ≤ X.length) : (splice X o l).length = X.length := length_splice X o l h
theorem wordOf_len (wd i : Nat) (s : ByteArray) : (wordOf wd i s).length = wd := by
  unfold wordOf
  rw [List.length_set, length_splice]
  · simp
  · have := bts_len s; simp; omega
theorem wordOf_lt (wd i : Nat) (s : ByteArray) (hi : i < 256) : ∀ b ∈ wordOf wd i s, b < 256 := by
  intro b hb
  unfold wordOf at hb
  rcases List.mem_or_eq_of_mem_set hb with h | h
  · unfold splice at h
    simp only [List.take_zero, List.nil_append, List.mem_append] at h
    rcases h with h | h
    · exact bts_lt s b (List.mem_of_mem_take h)
    · have := List.mem_of_mem_drop h
      rw [List.mem_replicate] at this; omega
  · omega
theorem wordOf_last (wd i : Nat) (s : ByteArray) (h : 1 ≤ wd) : (wordOf wd i s)[wd - 1]? = some i := by
  have hl := wordOf_len wd i s
  unfold wordOf at hl ⊢
  rw [List.length_set] at hl
  rw [List.getElem?_set]; simp; omega
/-- The words of texts, as strings. -/
def wordsB (ps : List ByteArray) (wd m : Nat) : List ByteArray := (List.range m).map fun i => strN (wordOf wd i (ps.getD i .empty))
theorem wordsB_len (ps : List ByteArray) (wd m : Nat) : (wordsB ps wd m).length = m := by simp [wordsB]
theorem wordsB_succ (ps : List ByteArray) (wd m : Nat) : wordsB ps wd (m + 1) = wordsB ps wd m ++ [strN (wordOf wd m (ps.getD m .empty))] := by simp [wordsB, List.range_succ]
theorem wordsB_get (ps : List ByteArray) (wd m i : Nat) (hi : i < m) : (wordsB ps wd m).getD i .empty = strN (wordOf wd i (ps.getD i .empty)) := by simp [wordsB, List.getD, hi]
theorem wordsB_bts (ps : List ByteArray) (wd m i : Nat) (hi : i < m) (hm : m ≤ 256) : bts ((wordsB ps wd m).getD i .empty) = wordOf wd i (ps.getD i .empty) := by
  rw [wordsB_get ps wd m i hi, bts_strN (wordOf_lt wd i _ (by omega))]
theorem strN_size {l : List Nat} (h : ∀ b ∈ l, b < 256) : (strN l).size = l.length := by rw [← bts_len, bts_strN h]
/-- The words are patterns of a sieve. -/
theorem newE_words (ps : List ByteArray) (wd m : Nat) (h1 : 1 ≤ wd) (h64 : wd ≤ 64) (hm : m ≤ 256) (h0 : 0 < m) : newE (wordsB ps wd m) = 0 ∧ wdOf (wordsB ps wd m) = wd := by
  have hsz : ∀ i, i < m → ((wordsB ps wd m).getD i .empty).size = wd := fun i hi => by
    rw [← bts_len, wordsB_bts ps wd m i hi hm, wordOf_len]
  have hwd : wdOf (wordsB ps wd m) = wd := by
    have e : ∀ L : List ByteArray, wdOf L = (L.getD 0 .empty).size := fun L => by unfold wdOf; cases L <;> rfl
    rw [e, hsz 0 h0]
  refine ⟨newE_ok (by rw [wordsB_len]; omega) (fun i hi => ?_) ?_, hwd⟩
  · rw [wordsB_len] at hi
    exact ⟨by rw [hsz i hi, hwd], by rw [hwd]; exact h1, by rw [hwd]; exact h64⟩
  · rw [List.nodup_iff_pairwise_ne, List.pairwise_iff_getElem]
    intro i j hi hj hij
    rw [List.length_map, wordsB_len] at hi hj
    have g : ∀ k (hk : k < m), ((wordsB ps wd m).map bts)[k]'(by rw [List.length_map, wordsB_len]; exact hk) = wordOf wd k (ps.getD k .empty) := fun k hk => by
      rw [← wordsB_bts ps wd m k hk hm]; simp [List.getD, wordsB_len, hk]
    rw [g i hi, g j hj]
    intro e2
    have l1 := wordOf_last wd i (ps.getD i .empty) h1
    have l2 := wordOf_last wd j (ps.getD j .empty) h1
    rw [e2, l2] at l1
    have := Option.some.inj l1
    omega

/-- One word made: copy, its number, its string. -/
theorem word_made {w wr : World} {wd w1 j k : Nat} {s0 z : ByteArray} {v : Value} {xs : List Value} {n : Nat} (hB : Below w.heap.size w wr) (hr : wr.ownsRow w.heap.size 9 1 v n xs) (hk : min s0.size wd = k) (hw : wd - 1 = w1) (hz : strN (wordOf wd j s0) = z) (h1 : 1 ≤ wd) :
    ∃ w2 w3, (Builtin.copy_ #[27, 9] 3 #[.slice (some ⟨wr.heap.size, 0, none⟩) wd wd, .string s0]).run Try.prog (wr.alloc (.cells (madeCells #[.int .u8 0] wd) 5)) = .ok (.int .i64 (k : Int)) w2 ∧ (∃ u, w2.cell? ⟨wr.heap.size, w1, none⟩ = some u) ∧ w2.frozen? ⟨wr.heap.size, w1, none⟩ = false ∧
      w2.setCell ⟨wr.heap.size, w1, none⟩ (.int .u8 (j : Int)) = w3 ∧ (convert 27 9 (.slice (some ⟨wr.heap.size, 0, none⟩) wd wd)).run Try.prog w3 = .ok (.string z) w3 ∧ Below w.heap.size w w3 ∧ w3.ownsRow w.heap.size 9 1 v n xs := by
  have hb0 : Blk (wr.alloc (.cells (madeCells #[.int .u8 0] wd) 5)) wr.heap.size 5 (u8s (List.replicate wd 0)) := by rw [← u8s_made]; exact Blk.new
  obtain ⟨w2, hrun, hb2, hk2, hz2⟩ := copy_str hb0 0 wd wd k s0 hk (by simp; omega)
  have hL : (splice (List.replicate wd 0) 0 ((bts s0).take k)).length = wd := by
    rw [splice_len0]
    · simp
    · have := bts_len s0; simp; omega
  have hb3 := hb2.set (i := w1) (v := .int .u8 (j : Int))
  rw [u8s_set] at hb3
  have hcv := conv_byt (w := w2.setCell ⟨wr.heap.size, w1, none⟩ (.int .u8 (j : Int))) (ao := some ⟨wr.heap.size, 0, none⟩) (c := wd) (l := wordOf wd j s0) (wordOf_len wd j s0) (fun _ => ⟨_, 0, rfl, hb3.lt, by unfold wordOf; rw [hk, hw]; exact hb3.bytes⟩) 0
  rw [hz] at hcv
  have hall : ∀ q, q < wr.heap.size → (w2.setCell ⟨wr.heap.size, w1, none⟩ (.int .u8 (j : Int))).heap[q]? = wr.heap[q]? := fun q hq => by
    rw [Below.heap_setCell _ _ _ _ (by simp; omega), hk2.block q (by simp; omega) (by omega), Below.heap_alloc _ _ _ hq]
  refine ⟨w2, _, hrun, ⟨_, hb2.cell (u8s_get _ w1 (by rw [hL]; omega))⟩, hb2.free, rfl, hcv, ?_, own_same hr fun q hq => hall q (hr.lt q hq).2⟩
  exact hB.trans ⟨hk2.os, hk2.tape, hk2.output, by have := hk2.size; simp [World.setCell] at this ⊢; omega, fun q hq => hall q (Nat.lt_of_lt_of_le hq hB.size)⟩
def WdRel (w : World) (ps : List ByteArray) (wd j : Nat) (u : Value) (wr : World) : Prop := Below w.heap.size w wr ∧ wr.ownsRow w.heap.size 9 1 u j ((wordsB ps wd j).map Value.string)
set_option maxRecDepth 100000 in
set_option maxHeartbeats 2000000 in
theorem words_any {w : World} {ao : Option Addr} {n c : Nat} {x : Int} {ps : List ByteArray} (hn : ps.length = n) (hnc : n ≤ c) (hs : Strs w ao ps) (hmax : n ≤ 1099511627776) :
    Calls Try.prog 35 #[.slice ao n c, .int .i64 x] w fun e w' => ∃ v wd, 2 ≤ wd ∧ wd ≤ 17 ∧ e = .returned v ∧ WdRel w ps wd (min n 24) v w' := by
  obtain ⟨v, hv1, hv2⟩ := and_nat x 15 (by decide)
  obtain ⟨wd, hwd⟩ : ∃ wd : Nat, wd = 2 + v := ⟨_, rfl⟩
  have hv2 : bits .and .i64 x 15 = (v : Int) := hv2
  have hw1 : (2 : Int) + (v : Int) = (wd : Int) := by omega
  have hw2 : IntKind.i64.wrap ((2 : Int) + (v : Int)) = (wd : Int) := by rw [IntWalk.i64_in _ (by omega)]; exact hw1
  have HS := Lib.hid hs
  have HN := Lib.hid hn
  have hwd2 : 2 ≤ wd := by omega
  have hwd17 : wd ≤ 17 := by omega
  clear hs hn hwd
  go_enter Try.func35, Try.ntmps35
  go_upto_if 13 with fail
  go_cut [0] (fun s wx => (∃ c', s = .slice ao (min n 24) c') ∧ w = wx)
  case first =>
    by_cases h24 : 24 < n
    · obtain ⟨b, off, rfl, _⟩ := HS.out (by rw [HN.out]; omega)
      have hc : 24 ≤ c := by omega
      have hc0 : ¬ c = 0 := by omega
      go_wp2
      go_meet
      exact ⟨⟨_, by rw [Nat.min_eq_right (by omega)]⟩, rfl⟩
    · go_wp2
      go_meet
      exact ⟨⟨_, by rw [Nat.min_eq_left (by omega)]⟩, rfl⟩
  case rest =>
    obtain ⟨⟨c', rfl⟩, rfl⟩ := hcut
    obtain ⟨m, hm⟩ : ∃ m, min n 24 = m := ⟨_, rfl⟩
    rw [hm]
    have hm24 : m ≤ 24 := by omega
    have hmn : m ≤ n := by omega
    have hst := Lib.hid (show WdRel w ps wd 0 (.slice none 0 0) w from ⟨Below.refl _ _, World.ownsRow_nil _ _ _ _⟩)
    have hmk := run_make_row' (P := Try.prog) 27 5 (.int .u8 0) 1 Try.underlying27 infoU8 rfl .i64 .i64 wd (by omega) (by omega)
    have hblk : ∀ w : World, Blk (w.alloc (.cells (madeCells #[.int .u8 0] wd) 5)) w.heap.size 5 (u8s (List.replicate wd 0)) := fun w => by rw [← u8s_made]; exact Blk.new
    have HB := Lib.hid hblk
    obtain ⟨i9, a1, a2, a3, a4⟩ := info_parts info9
    obtain ⟨w1, hww⟩ : ∃ w1 : Nat, wd - 1 = w1 := ⟨_, rfl⟩
    have hw3 : IntKind.i64.wrap ((wd : Int) - 1) = (w1 : Int) := by rw [IntWalk.i64_in _ (by omega)]; omega
    have hw4 : w1 < wd := by omega
    have HWW := Lib.hid hww
    have HM24 := Lib.hid hm
    clear hm hblk hv2 hw1 hw2 hww
    go_wp2
    go_loopw [5, 6] (fun u i wr => ∃ (j : Nat) (u' : Value), j ≤ m ∧ i = .int .i64 (j : Int) ∧ u' = u ∧ WdRel w ps wd j u' wr) (fun _ i _ => m - (intOf i).toNat)
    case atStart => exact ⟨0, _, by omega, rfl, rfl, hst.out⟩
    case round =>
      clear hst
      obtain ⟨j, u, hj, rfl, rfl, hB, hrow⟩ := hrel
      by_cases hlt : j < m
      · obtain ⟨b, off, rfl, hb, hc⟩ := (HS.out.below hB) (by rw [HN.out]; omega)
        have cj := hc j (by rw [HN.out]; omega)
        obtain ⟨s0, hs0⟩ : ∃ s0, ps.getD j .empty = s0 := ⟨_, rfl⟩
        rw [hs0] at cj
        obtain ⟨uo, uc, rfl⟩ := own_form hrow
        obtain ⟨k, hk⟩ : ∃ k, min s0.size wd = k := ⟨_, rfl⟩
        obtain ⟨z, hz⟩ : ∃ z, strN (wordOf wd j s0) = z := ⟨_, rfl⟩
        have hbs := hB.size
        have hu8 : IntKind.u8.wrap (j : Int) = (j : Int) := by rw [IntKind.wrap_u8]; omega
        have hmx : j + 1 ≤ maxLen := by unfold maxLen; omega
        have hby : (j + 1) * 16 ≤ 140737488355328 := by omega
        have HK := Lib.hid hk
        have HZ := Lib.hid hz
        have HS0 := Lib.hid hs0
        have HBw := Lib.hid hB
        have HR := Lib.hid hrow
        have HL := Lib.hid (show (splice (List.replicate wd 0) 0 ((bts s0).take k)).length = wd by
          rw [splice_len0]
          · simp
          · have := bts_len s0; simp; omega)
        clear hc hk hz hs0 hB hrow
        go_wp2_with (first
          | (obtain ⟨w2, w3, hrun, ⟨u0, z0⟩, z1, hw3e, hcv, hB3, hR3⟩ := word_made (j := j) HBw.out HR.out HK.out HWW.out HZ.out (by omega); refine wpList_copy_run (o := ⟨some 29, _, _, _, _, _⟩) rfl (.tmp 24) (.tmp 28) #[27, 9] rfl _ _ _ _ rfl rfl hrun ?_; have hbs3 := hB3.size; have HB3 := Lib.hid hB3; have HR3 := Lib.hid hR3; clear hrun hB3 hR3)
          | (at_builtin; refine wpList_append_lies _ (by rfl) (.tmp 36) (.tmp 39) 26 (by rfl) w.heap.size 9 i9 (.string .empty) 1 16 Try.underlying26 a1 a2 a3 a4 (by rfl) (by decide) (.slice uo j uc) j ((wordsB ps wd j).map Value.string) (by rfl) (HR3.out.alloc _) ⟨w3.heap.size, 0, none⟩ 1 1 [.string z] (by rfl) (by rfl) (fun _ _ hj => alloc_cells _ _ hj) (by intro u hu; simp at hu; subst hu; rfl) (by decide) hmx hby (le_alloc hbs3) (w3.heap.size + 1) (size_alloc1 _ _) ?_; intro g cap2 w4 hown hgrow hat hlt3; have HO := Lib.hid hown; have HG := Lib.hid hgrow; clear hown hgrow hat))
        all_goals (go_roundw; case measure => (simp [intOf]; omega))
        all_goals refine ⟨j + 1, _, by omega, by go_num, rfl, ((HB3.out.alloc hbs3 _)).grown HG.out (le_alloc hbs3) (fun q hq => (HR3.out.lt q hq).1), ?_⟩
        all_goals rw [wordsB_succ, HS0.out, HZ.out, List.map_append]
        all_goals exact HO.out
      · obtain rfl : j = m := by omega
        go_wp2
        go_ret
        exact ⟨_, wd, hwd2, hwd17, rfl, by rw [HM24.out]; exact ⟨hB, hrow⟩⟩
end Go.Proofs.Ythkaicbkcaiffaa
