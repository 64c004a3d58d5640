/-
  SieveFinds: the law's walk. Conditions: the sizes are below 2^20.
-/
import Derived.Test.YthkaicbkcaiffaaWe
import Derived.Deep.RegionHeld3
import Derived.Lib.QuietBelow
import Derived.BigQuiet
namespace Go.Proofs.Ythkaicbkcaiffaa
open Go.RowKit
open Go.BigFrame

/-- A call in a region that draws, of a callee under a contract that ends in 'Below'. -/
theorem grow_call {P : Program} {f : FuncId} {args : Array Value} {w : World} {d : Nat} {os : Array Obj} {v : Value}
    (h : Calls P f args (Go.Sort.grow (redrawn w d) os) fun e w' => e = .returned v ∧ Below (Go.Sort.grow (redrawn w d) os).heap.size (Go.Sort.grow (redrawn w d) os) w') : Calls P f args (Go.Sort.grow (redrawn w d) os) fun e w'' => e = .returned v ∧ ∃ p : Regrown, w'' = Go.Sort.grow (redrawn w p.d) p.os := Calls.regrown_of h
set_option maxRecDepth 100000 in
set_option maxHeartbeats 4000000 in
theorem finds_any {w : World} {po ao bo : Option Addr} {n c m c' q c'' : Nat} {x : Int} {ps : List ByteArray} {l ls : List Nat} (hn : ps.length = n) (hnc : n ≤ c) (hp : Strs w po ps) (hnil : po = none → c = 0) (hpf : c = 0 ∨ ∃ b off, po = some ⟨b, off, none⟩)
    (hm : l.length = m) (hl : Byt w ao l) (hb : ∀ b ∈ l, b < 256) (hq : ls.length = q) (hls : U16 w bo ls) (h16 : ∀ y ∈ ls, y < 65536) (hmax : n ≤ 1048576) (hmm : m ≤ 1048576) (hqm : q ≤ 1048576) :
    Calls Try.prog 6 #[.slice po n c, .int .i64 x, .slice ao m c', .slice bo q c''] w fun e w' => e = .returned (.bool true) ∧ Below w.heap.size w w' := by
  have HN := Lib.hid hn
  have HP := Lib.hid hp
  have HM := Lib.hid hm
  have HL := Lib.hid hl
  have HB := Lib.hid hb
  have HQ := Lib.hid hq
  have HLS := Lib.hid hls
  have H16 := Lib.hid h16
  have HNil := Lib.hid hnil
  have HPF := Lib.hid hpf
  obtain ⟨i9, a1, a2, a3, a4⟩ := info_parts info9
  have hmx : n + 1 ≤ maxLen := by unfold maxLen; omega
  have hby : (n + 1) * 16 ≤ 140737488355328 := by omega
  have hnil2 := Lib.hid (show po = none → n = 0 ∧ n = 0 from fun e => by have := hnil e; omega)
  have hmin : min (n + 1) 24 ≤ 24 ∧ 0 < min (n + 1) 24 := by omega
  obtain ⟨N, hN⟩ : ∃ N, min (n + 1) 24 = N := ⟨_, rfl⟩
  rw [hN] at hmin
  obtain ⟨hN24, hN0⟩ := hmin
  have HMIN := Lib.hid hN
  clear hn hp hm hl hb hq hls h16 hnil hpf hN
  go_enter Try.func6, Try.ntmps6
  have hsl : ∀ wx : World, (Instr.slice 26 (.slice po n c) none (some (.int .i64 (n : Int))) (some (.int .i64 (n : Int)))).run Try.prog wx = .ok (.slice po n n) wx := fun wx => by
    have h := run_slice_hm (P := Try.prog) wx 26 po n c (by kernel_rfl) .i64 .i64 (n : Int) (n : Int) (by omega) (by omega) (by omega)
    rw [h]
    have hs1 : (sizeOf (Try.prog.elem 26)).run Try.prog wx = .ok 1 wx := by kernel_rfl
    rw [hs1]
    simp only [Result.andThen_ok, sliced, Int.toNat_natCast, Nat.sub_zero]
    by_cases hn0 : n = 0
    · rw [if_pos hn0]
    · rw [if_neg hn0]
      rcases HPF.out with h0 | ⟨b, off, rfl⟩
      · omega
      · simp [Addr.add]
  go_wp2_with (first
    | (at_builtin; refine wpList_append_grows _ (by rfl) (.tmp 21) (.tmp 22) 26 (by rfl) 9 i9 (.string .empty) 1 16 Try.underlying26 a1 a2 a3 a4 (by rfl) (by decide) po n n (ps.map Value.string) (by rfl) hnil2.out (by rw [List.length_map, HN.out, Nat.mul_one]) (fun b hb => (HP.out.below ((Below.refl _ _).alloc (Nat.le_refl _) _)).cells b hb) ⟨w.heap.size, 0, none⟩ 1 1 [.string abS] (by rfl) (by rfl) (fun _ _ hj => alloc_cells _ _ hj) (by intro u hu; simp at hu; subst hu; rfl) (Nat.lt_succ_self n) hmx hby ?_; intro v1 w1 hown hgrow; obtain ⟨t1, tc1, rfl⟩ := own_form hown; have HO1 := Lib.hid hown; have HG1 := Lib.hid hgrow; clear hown hgrow)
    | (go_at_call 35; refine (words_any (ps := ps ++ [abS]) (n := n + 1) (by rw [List.length_append, HN.out]; rfl) (by obtain ⟨g, hg⟩ := own_some HO1.out (Nat.succ_pos n); have h := HO1.out; rw [hg] at h; exact (row_cells h).2.1) (Strs.of_own (by rw [List.map_append]; exact HO1.out)) (by omega)).mono ?_; rw [HMIN.out]; rintro e w2 ⟨v2, wd, hd1, hd2, rfl, hb2, hr2⟩; obtain ⟨t2, tc2, rfl⟩ := own_form hr2; obtain ⟨L, hL⟩ : ∃ L, wordsB (ps ++ [abS]) wd N = L := ⟨_, rfl⟩; rw [hL] at hr2; have HLw := Lib.hid hL; have HB2 := Lib.hid hb2; have HR2 := Lib.hid hr2; have hbw1 : Below w.heap.size w w1 := (((Below.refl _ w).alloc (Nat.le_refl _) _)).grown HG1.out (le_alloc (Nat.le_refl _)) (fun k hk => (by cases hk)); have HBW2 := Lib.hid (hbw1.trans (hb2.mono hbw1.size)); obtain ⟨lb, rfl⟩ := own_some hr2 hN0; clear hL hb2 hr2 hbw1)
    | (go_at_call 36; refine (planted_any (np := N) HM.out (HL.out.below HBW2.out) HB.out (by rw [← HLw.out, wordsB_len]) (Strs.of_own HR2.out) hN0 HQ.out (HLS.out.below HBW2.out) hmm hqm H16.out (by omega)).mono ?_; rintro e w3 ⟨g, X, rfl, hg, hb3, hX, hXn, hXb⟩; have HB3 := Lib.hid hb3; have HX := Lib.hid hX; have HXN := Lib.hid hXn; have HXB := Lib.hid hXb; have HBW3 := Lib.hid (HBW2.out.trans (hb3.mono HBW2.out.size)); have HL3 := Lib.hid ((Strs.of_own HR2.out).below hb3); clear hb3 hX hXn hXb)
    | (go_at_call 37; refine (new_ok (ps := L) (by rw [← HLw.out, wordsB_len]) HL3.out (by rw [← HLw.out]; exact (newE_words _ wd N (by omega) (by omega) (by omega) hN0).1)).mono ?_; rintro e w4 ⟨sb, tb, mb, nb, cap, T, rfl, hb4, hS, hA⟩; rw [show wdOf L = wd by rw [← HLw.out]; exact (newE_words _ wd N (by omega) (by omega) (by omega) hN0).2, show L.length = N by rw [← HLw.out, wordsB_len]] at hS; rw [show wdOf L = wd by rw [← HLw.out]; exact (newE_words _ wd N (by omega) (by omega) (by omega) hN0).2] at hA; have HSv := Lib.hid hS; have HA := Lib.hid hA; have HB4 := Lib.hid hb4; have HBW4 := Lib.hid (HBW3.out.trans (hb4.mono HBW3.out.size)); have HL4 := Lib.hid (HL3.out.below hb4); have HX4 := Lib.hid (HX.out.below hb4 HX.out.lt); clear hb4 hS hA)
    | (go_at_call 18; refine (len_at HSv.out).mono ?_; rintro e w5 ⟨rfl, rfl⟩))
  obtain ⟨s0, hs0⟩ : ∃ s0, L.getD 0 .empty = s0 := ⟨_, rfl⟩
  have hLl : L.length = N := by rw [← HLw.out, wordsB_len]
  have hs0w : s0.size = wd := by
    rw [← hs0, ← HLw.out, ← bts_len, wordsB_bts _ _ _ 0 hN0 (by omega), wordOf_len]
  obtain ⟨lb', off', e1, e2, e3⟩ := HL4.out (by omega)
  obtain ⟨rfl, rfl⟩ : lb = lb' ∧ 0 = off' := by simpa using e1
  have c0 := e3 0 (by omega)
  rw [hs0] at c0
  have HLL := Lib.hid hLl
  have HS0 := Lib.hid hs0
  have HSW := Lib.hid hs0w
  have hsz17 : s0.size ≤ 17 := by omega
  clear e1 e2 e3 hLl hs0 hs0w
  have hmem : bts s0 ∈ L.map bts := by rw [← HS0.out]; exact getD_mem_bts (by rw [HLL.out]; exact hN0)
  have HE := Lib.hid (hits_end (wd := wd) (X := X) hmem (by rw [bts_len, HSW.out]; omega))
  clear hmem
  have hlb5 : lb < w5.drew.heap.size := cell_lt c0
  go_cut [13] (fun hv wx => (∃ ho N2 hc2, hv = .slice ho N2 hc2 ∧ 0 < N2) ∧ Below w5.heap.size w5 wx)
  case first =>
    go_region_law (first
      | (go_simp; go_at_call 38; refine (copied_any (some ⟨g, 0, none⟩) m m X HXN.out HX4.out.drew.byt (by omega)).mono ?_; rintro e w6 ⟨rfl, hbk, hb6⟩; have c6 := hb6.cell (p := ⟨lb, 0, none⟩) hlb5; have HBK := Lib.hid hbk; have HB6 := Lib.hid hb6; clear hbk hb6)
      | (obtain ⟨ao7, c7, w7, hrun, hown, hb7, hg7⟩ := append_str (s := s0) HB6.out HB6.out.size (own_of_u8s (base := w5.heap.size) HBK.out (Nat.le_refl _) HXN.out (by unfold maxLen; omega)) (by omega); refine step_append_run (by rfl) (.tmp 50) (.tmp 53) #[27, 9] (by rfl) _ _ _ _ (by rfl) (by rfl) hrun ?_; have HB7 := Lib.hid hb7; have HO7 := Lib.hid hown; clear hrun hown hb7 hg7)
      | (go_simp; go_at_call 23; refine (scan_at (HSv.out.below (show Below w5.heap.size w5 w7 from Below.trans (Below.drew (Below.refl w5.heap.size w5)) HB7.out)) HA.out (by omega) (by rw [List.length_append, HXN.out, bts_len]) (dat_of_own' HO7.out) (fun b hb => by rcases List.mem_append.1 hb with h | h; exact HXB.out b h; exact bts_lt s0 b h) (by omega)).mono ?_; rintro e w8 ⟨hv, rfl, hb8, hr8⟩; obtain ⟨N2, hN2⟩ : ∃ N2, (hitsOf (L.map bts) wd 0 [] (X ++ bts s0)).length = N2 := ⟨_, rfl⟩; rw [hN2] at hr8; have HN2 := Lib.hid hN2; obtain ⟨ho, hc2, rfl⟩ := own_form hr8; have HB8 := Lib.hid hb8; clear hb8 hr8 hN2))
    all_goals go_wp2
    all_goals go_meet
    all_goals exact ⟨⟨ho, N2, hc2, rfl, by rw [← HN2.out]; exact HE.out⟩, Below.trans (show Below w5.heap.size w5 w7 from Below.trans (Below.drew (Below.refl w5.heap.size w5)) HB7.out) (HB8.out.mono HB7.out.size)⟩
  case rest =>
    obtain ⟨⟨ho0, N2, hc0, rfl, hN2⟩, hb6⟩ := hcut
    have HB6 := Lib.hid hb6
    have c0' := (hb6.cell (p := ⟨lb, 0, none⟩) hlb5).trans c0
    have hz : ((N2 : Int) == 0) = false := by simp; omega
    have HX6 := Lib.hid (HX4.out.below hb6 HX4.out.lt)
    have HL6 := Lib.hid (HL4.out.below hb6)
    clear hb6
    go_wp2_with (go_at_call 23; refine (scan_at (HSv.out.below HB6.out) HA.out (by omega) HXN.out HX6.out.dat HXB.out (by omega)).mono ?_; rintro e w7 ⟨hv, rfl, hb7, hr7⟩; obtain ⟨hs, hhs⟩ : ∃ hs, hitsOf (L.map bts) wd 0 [] X = hs := ⟨_, rfl⟩; rw [hhs] at hr7; obtain ⟨M, hM⟩ : ∃ M, hs.length = M := ⟨_, rfl⟩; rw [hM] at hr7; obtain ⟨ho, hc7, rfl⟩ := own_form hr7; have HHS := Lib.hid hhs; have HMM := Lib.hid hM; have HB7 := Lib.hid hb7; have HR7 := Lib.hid hr7; clear hhs hM hb7 hr7)
    have hlP : ∀ p, p ∈ L.map bts → p.length = wd := fun p hp => by
      obtain ⟨y, hy, rfl⟩ := List.mem_map.1 hp
      obtain ⟨i, hi, rfl⟩ := List.mem_iff_getElem.1 hy
      have e : L.getD i .empty = L[i] := by simp [List.getD, hi]
      rw [← e, ← HLw.out, wordsB_bts _ _ _ i (by rw [← HLL.out]; exact hi) (by omega), wordOf_len]
    have HLP := Lib.hid hlP
    have hMle : M ≤ m := by rw [← HMM.out, ← HHS.out, ← HXN.out]; exact hitsOf_len _ _ _ _ _
    clear hlP
    go_loopw [14, 15] (fun f i wr => ∃ (j : Nat) (r : Int), j ≤ M ∧ i = .int .i64 (j : Int) ∧ f = .int .i64 r ∧ IsOv (fun i => (hs.getD i (0, 0)).1) j (wd : Int) r ∧ Below w7.heap.size w7 wr) (fun _ i _ => M - (intOf i).toNat)
    case atStart => exact ⟨0, -1, by omega, rfl, rfl, .inl ⟨rfl, fun j a b => absurd b (Nat.not_lt_zero j)⟩, Below.refl _ _⟩
    case round =>
      obtain ⟨j, r, hj, rfl, rfl, hov, hbr⟩ := hrel
      have hrow := own_same HR7.out fun x q => hbr.block x (HR7.out.lt x q).2
      have hl7 := (HB7.out.cell (p := ⟨lb, 0, none⟩) (cell_lt c0')).trans c0'
      have hl0 := (hbr.cell (p := ⟨lb, 0, none⟩) (cell_lt hl7)).trans hl7
      by_cases hlt : j < M
      · obtain ⟨a, h1, h2, h3, h4, h5⟩ := hit_facts (by omega) HLP.out HHS.out (show j < hs.length by rw [HMM.out]; exact hlt)
        obtain ⟨k, hk⟩ : ∃ k, (hs.getD j (0, 0)).2 = k := ⟨_, rfl⟩
        obtain ⟨gh, rfl⟩ := own_some hrow (by omega)
        have d := hcs_get hs j (by rw [HMM.out]; exact hlt)
        rw [h1, hk] at d
        have d0 := ((row_cells hrow).2.2.2.2.2 _ _ d.1).1
        have d1 := ((row_cells hrow).2.2.2.2.2 _ _ d.2).1
        rw [hk] at h3 h4
        have hbX := HX6.out.below (Below.trans HB7.out (hbr.mono HB7.out.size)) HX6.out.lt
        have hSt := fun (w' : World) (hb : Below wr.heap.size wr w') => stands_any (w := w') (c := m) (pc := tc2) (k := k) (a := a) HXN.out (Nat.le_refl _) (Blk.below hbX hb hbX.lt).byt HLL.out (HL6.out.below (Below.trans HB7.out ((hbr.trans (hb.mono hbr.size)).mono HB7.out.size))) (by rw [← HLL.out]; exact h3) (by rw [HS0.out]; exact HSW.out) (by omega) (by rw [← HXN.out]; exact h2) h4 (by omega) (by omega)
        have HST := Lib.hid hSt
        have HOV := Lib.hid hov
        have HBR := Lib.hid hbr
        have HRW := Lib.hid hrow
        have ham : a ≤ m := by rw [← HXN.out]; omega
        have H1 := Lib.hid h1
        have hsg := hov.sign
        have hw64 : IntKind.i64.wrap ((j : Int) - 1) = (j : Int) - 1 := IntWalk.i64_in _ (by omega)
        clear hSt hov hbr hbX h1 h2 h3 h4 d hk hl7
        by_cases hj0 : j = 0
        · subst hj0
          clear h5 hsg
          have hr : r = -1 := by
            rcases HOV.out.sign with h | ⟨h, h'⟩
            · exact h
            · omega
          subst hr
          have HN := Lib.hid (show IsOv (fun i => (hs.getD i (0, 0)).1) (0 + 1) (wd : Int) (-1) from HOV.out.step_no (fun h => absurd h (by decide)))
          rw [Nat.zero_mul] at d0 d1
          rw [Nat.zero_add] at d1
          go_upto_region 14 with fail
          have f0 := fun dd os => cell_regrown d0 dd os
          have f1 := fun dd os => cell_regrown d1 dd os
          refine wp_region_quiet_below (by kernel_rfl) (by kernel_rfl) ?_
          repeat (go_big_quiet_step ((go_at_call 39; exact grow_call (HST.out _ (below_regrown _ _ _)))))
          refine wpQuiet_nil ?_
          rintro _ ⟨⟨nq, osq⟩, rfl⟩
          have hb8 := below_regrown wr nq osq
          revert hb8
          generalize Go.Sort.grow (redrawn wr nq) osq = w8
          intro hb8
          have z2 := (hb8.cell (p := ⟨lb, 0, none⟩) (cell_lt hl0)).trans hl0
          have hbw8 := HBR.out.trans (hb8.mono HBR.out.size)
          have HBW8 := Lib.hid hbw8
          clear hbw8 hb8
          go_upto_region 16 with fail
          go_quiet (fail)
          go_wp2
          go_roundw
          case rel => exact ⟨1, -1, by omega, by go_num, rfl, HN.out, Below.drewN' HBW8.out _⟩
          case measure => simp [intOf]; omega
        · obtain ⟨h6, h7⟩ := h5 (by omega)
          obtain ⟨a', ha'⟩ := Int.eq_ofNat_of_zero_le h7
          have e := hcs_get hs (j - 1) (by rw [HMM.out]; omega)
          rw [ha'] at e h6
          have d2 := ((row_cells HRW.out).2.2.2.2.2 _ _ e.1).1
          have HA' := Lib.hid ha'
          clear e h5 h7 ha'
          have q1 : ((j : Int) - 1).toNat = j - 1 := by omega
          have q2 : (0 : Int) ≤ (j : Int) - 1 := by omega
          have q3 : (j : Int) - 1 < (M : Int) := by omega
          have q4 : 0 < j := by omega
          have q7 : (1 : Int) ≤ (j : Int) := by omega
          have q8 : (j : Int) ≤ (M : Int) := by omega
          have q9 : 1 ≤ j := by omega
          have q5 : (a' : Int) < (a : Int) := h6
          have q6 : IntKind.i64.wrap ((a : Int) - (a' : Int)) = (a : Int) - (a' : Int) := IntWalk.i64_in _ (by omega)
          go_upto_region 14 with fail
          have f0 := fun dd os => cell_regrown d0 dd os
          have f1 := fun dd os => cell_regrown d1 dd os
          have f2 := fun dd os => cell_regrown d2 dd os
          refine wp_region_quiet_below (by kernel_rfl) (by kernel_rfl) ?_
          repeat (go_big_quiet_step ((go_at_call 39; exact grow_call (HST.out _ (below_regrown _ _ _)))))
          refine wpQuiet_nil ?_
          rintro _ ⟨⟨nq, osq⟩, rfl⟩
          have hb8 := below_regrown wr nq osq
          revert hb8
          generalize Go.Sort.grow (redrawn wr nq) osq = w8
          intro hb8
          have z2 := (hb8.cell (p := ⟨lb, 0, none⟩) (cell_lt hl0)).trans hl0
          have z0 := (hb8.cell (p := ⟨gh, j * 2, none⟩) (cell_lt d0)).trans d0
          have z1 := (hb8.cell (p := ⟨gh, (j - 1) * 2, none⟩) (cell_lt d2)).trans d2
          have hbw8 := HBR.out.trans (hb8.mono HBR.out.size)
          have HBW8 := Lib.hid hbw8
          clear hbw8 hb8
          rcases hsg with hr | ⟨hr, hr'⟩
          · subst hr
            by_cases hnear : (a : Int) - (a' : Int) < (s0.size : Int)
            · have HN := Lib.hid (show IsOv (fun i => (hs.getD i (0, 0)).1) (j + 1) (wd : Int) (j : Int) from HOV.out.step_yes (by omega) (by show nearB (hs.getD (j - 1) (0, 0)).1 (hs.getD j (0, 0)).1 wd = true; rw [H1.out, HA'.out]; unfold nearB; simp; have := HSW.out; omega))
              have b1 : decide ((a : Int) - (a' : Int) < (s0.size : Int)) = true := by simpa using hnear
              go_upto_region 16 with fail
              go_quiet (fail)
              go_wp2
              go_roundw
              case rel => exact ⟨j + 1, _, by omega, by go_num, rfl, HN.out, Below.drewN' HBW8.out _⟩
              case measure => simp [intOf]; omega
            · have HN := Lib.hid (show IsOv (fun i => (hs.getD i (0, 0)).1) (j + 1) (wd : Int) (-1) from HOV.out.step_no (fun _ => by show nearB (hs.getD (j - 1) (0, 0)).1 (hs.getD j (0, 0)).1 wd = false; rw [H1.out, HA'.out]; unfold nearB; simp; have := HSW.out; omega))
              have b1 : decide ((a : Int) - (a' : Int) < (s0.size : Int)) = false := by simpa using hnear
              go_upto_region 16 with fail
              go_quiet (fail)
              go_wp2
              go_roundw
              case rel => exact ⟨j + 1, _, by omega, by go_num, rfl, HN.out, Below.drewN' HBW8.out _⟩
              case measure => simp [intOf]; omega
          · have HN := Lib.hid (HOV.out.more hr)
            have b1 : decide (r < 0) = false := by simpa using hr
            go_upto_region 16 with fail
            go_quiet (fail)
            go_wp2
            go_roundw
            case rel => exact ⟨j + 1, r, by omega, by go_num, rfl, HN.out, Below.drewN' HBW8.out _⟩
            case measure => simp [intOf]; omega
      · have ej : j = M := by omega
        subst ej
        have hnd := (newE0 (ps := L) (by rw [← HLw.out]; exact (newE_words _ wd N (by omega) (by omega) (by omega) hN0).1)).2.2
        have hbX := HX6.out.below (Below.trans HB7.out (hbr.mono HB7.out.size)) HX6.out.lt
        have hbL := HL6.out.below (Below.trans HB7.out (hbr.mono HB7.out.size))
        have ec : (refHits (L.map bts) wd X (m + 1 - wd)).length = j := by rw [← HXN.out, ← hits_same (by omega) HLP.out X, HHS.out, HMM.out]
        have hcnt := count_any (w := wr) (c := m) (pc := tc2) (wd := wd) HXN.out (Nat.le_refl _) hbX.byt HXB.out HLL.out hbL hN0 (by rw [HS0.out]; exact HSW.out) (by omega) (by omega) hnd (by omega) (by omega)
        rw [ec] at hcnt
        have HC := Lib.hid hcnt
        have hin : ∀ i, i < j → in64 (hs.getD i (0, 0)).1 := fun i hi => by
          obtain ⟨a, h1, h2, _⟩ := hit_facts (by omega) HLP.out HHS.out (show i < hs.length by rw [HMM.out]; exact hi)
          have := HXN.out
          rw [h1]; constructor <;> omega
        have hovl : ∀ nq, Calls Try.prog 14 #[.slice ho j hc7, .int .i64 (s0.size : Int)] (wr.drewN nq) fun e w' => e = .returned (.int .i64 r) ∧ ∃ k, w' = (wr.drewN nq).drewN k := fun nq => by
          have e0 := HSW.out
          refine (overlap_row (w := wr.drewN nq) HMM.out (own_same hrow fun x q => rfl) (by omega) (show in64 (s0.size : Int) by constructor <;> omega) hin).mono ?_
          rintro e w' ⟨r', rfl, h, hw⟩
          rw [e0] at h
          rw [h.unique hov]
          exact ⟨rfl, hw⟩
        have HBF := Lib.hid (Below.trans HBW4.out ((Below.trans HB6.out ((Below.trans HB7.out (hbr.mono HB7.out.size)).mono HB6.out.size)).mono HBW4.out.size))
        have HOL := Lib.hid hovl
        clear hnd hbX hbL ec hin hrow hov hbr hl7 hj hcnt hovl
        go_wp2_with (first
          | (go_at_call 40; refine HC.out.mono ?_; rintro e w8 ⟨rfl, k8, rfl⟩)
          | (go_at_call 14; refine (HOL.out _).mono ?_; rintro e w8 ⟨rfl, k9, rfl⟩))
        go_ret
        exact ⟨rfl, Below.drewN' HBF.out _⟩
end Go.Proofs.Ythkaicbkcaiffaa
