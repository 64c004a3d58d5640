/-
  The reference's held and its Scanner's Held. Conditions: none.
-/
import Derived.Test.YthkaicbkcaiffaaRb
import Derived.WalkSpells
namespace Go.Proofs.Ythkaicbkcaiffaa
open Go.RowKit

def HeldOf (P : List (List Nat)) (wd : Nat) (L : List Nat) (r : Nat) : Prop :=
  r ≤ min (wd - 1) L.length ∧ (r = 0 ∨ ∃ p, p ∈ P ∧ p.take r = L.drop (L.length - r)) ∧ ∀ k, r < k → k ≤ min (wd - 1) L.length → ∀ p, p ∈ P → p.take k ≠ L.drop (L.length - k)
theorem heldOf_is {P : List (List Nat)} {wd : Nat} {D : List Nat} {r : Nat} (h : HeldOf P wd (lastOf wd D) r) : IsHeld P wd D r := by
  obtain ⟨h1, h2, h3⟩ := h
  have hl := lastOf_len wd D
  have hsuf := lastOf_suffix wd D
  generalize lastOf wd D = L at *
  refine ⟨⟨L.drop (L.length - r), (List.drop_suffix _ _).trans hsuf, by simp; omega, ?_⟩, by omega, fun s hs hp hlt => ?_⟩
  · rcases h2 with rfl | ⟨p, hp, he⟩
    · left; simp
    · right; exact ⟨p, hp, by rw [← he]; exact List.take_prefix _ _⟩
  · rcases hp with rfl | ⟨p, hp, hpre⟩
    · simp
    · refine Nat.le_of_not_lt fun hlt2 => ?_
      have hsl := hs.length_le
      refine h3 s.length hlt2 (by omega) p hp ?_
      rw [← List.prefix_iff_eq_take.1 hpre]
      exact suffix_len hs ((List.drop_suffix _ _).trans hsuf) (by simp; omega)
theorem ext_bts (s : ByteArray) (k : Nat) : bts (s.extract 0 k) = (bts s).take k := by
  unfold bts
  rw [ByteArray.data_extract, Array.toList_extract]
  simp [List.extract, List.map_take]

set_option maxRecDepth 100000 in
set_option maxHeartbeats 1000000 in
theorem refHeld_any {w : World} {base rb wd n pc : Nat} {ps : List ByteArray} {lv : Value} {F : Nat → Value} {ao : Option Addr} {L : List Nat} (h : RefAt w base rb wd ps lv F) (hn : L.length = n) (hpc : n ≤ pc) (hb : ∀ b ∈ L, b < 256) (hps : ps.length ≤ 4096) (hwd : wd ≤ 64)
    (hsz : ∀ k, k < ps.length → (ps.getD k .empty).size = wd) (hl : Byt w ao L) (hmax : n ≤ 1099511627776) :
    Calls Try.prog 65 #[.pointer (some ⟨rb, 0, none⟩), .slice ao n pc] w fun e w' => ∃ r : Nat, HeldOf (ps.map bts) wd L r ∧ e = .returned (.int .i64 (r : Int)) ∧ ∃ q, w' = w.drewN q := by
  obtain ⟨cs, c0, c1, c2, c3⟩ := h.head
  have k2 : w.cell? ⟨rb, 257, none⟩ = some (.int .i64 (wd : Int)) := c0.cell c2
  by_cases hw0 : wd = 0
  · subst hw0
    clear h c0 c1 c2 c3 hb hsz hl
    go_enter Try.func65, Try.ntmps65
    go_wp2
    refine wp_loop_rounds 1 ?_
    rw [rounds_succ]
    go_wp2
    go_ret
    exact ⟨0, ⟨Nat.zero_le _, .inl rfl, fun k h1 h2 => by omega⟩, rfl, 0, rfl⟩
  · have k0 : w.cell? ⟨rb, 0, none⟩ = some lv := c0.cell c1
    have kF : ∀ x, x < 256 → w.cell? ⟨rb, 1 + x, none⟩ = some (F x) := fun x hx => c0.cell (c3 x hx)
    obtain ⟨lo, lc, hlv⟩ := own_form h.strs
    rw [hlv] at k0
    have HS := Lib.hid (hlv ▸ h.strs)
    have HI := Lib.hid h.idx
    have KF := Lib.hid kF
    have HN := Lib.hid hn
    have HB := Lib.hid hb
    have HL := Lib.hid hl
    have HZ := Lib.hid hsz
    have w1 : IntKind.i64.wrap ((wd : Int) - 1) = (wd : Int) - 1 := IntWalk.i64_in _ (by omega)
    clear h c0 c1 c2 c3 hlv kF hn hb hl hsz
    go_enter Try.func65, Try.ntmps65
    go_upto_if 17 with fail
    go_cut [5] (fun s wx => s = .int .i64 ((min (wd - 1) n : Nat) : Int) ∧ w = wx)
    case first =>
      by_cases h0 : n < wd - 1
      · have hz : decide ((n : Int) < (wd : Int) - 1) = true := by simp; omega
        go_wp2
        go_meet
        exact ⟨by rw [Nat.min_eq_right (by omega)], rfl⟩
      · have hz : decide ((n : Int) < (wd : Int) - 1) = false := by simp; omega
        go_wp2
        go_meet
        exact ⟨by rw [Nat.min_eq_left (by omega)]; go_num, rfl⟩
    case rest =>
      obtain ⟨rfl, rfl⟩ := hcut
      go_wp2
      go_loopw [5] (fun i wr => ∃ (k q : Nat), k ≤ min (wd - 1) n ∧ i = .int .i64 (k : Int) ∧ wr = w.drewN q ∧ ∀ k', k < k' → k' ≤ min (wd - 1) n → ∀ p, p ∈ ps.map bts → p.take k' ≠ L.drop (n - k')) (fun i _ => (intOf i).toNat)
      case atStart => exact ⟨_, 0, Nat.le_refl _, rfl, rfl, fun k' h1 h2 => by omega⟩
      case round =>
        obtain ⟨k, q, hk, rfl, rfl, hno⟩ := hrel
        by_cases h0 : 0 < k
        · have NO := Lib.hid hno
          obtain ⟨b, off, rfl, hbl, hd⟩ := HL.out (by rw [HN.out]; omega)
          obtain ⟨lw, hlw⟩ : ∃ lw, n - k = lw := ⟨_, rfl⟩
          have hk1 : k ≤ n := by omega
          have hk2 : k < wd := by omega
          have s1 : IntKind.i64.wrap ((n : Int) - (k : Int)) = (lw : Int) := by rw [IntWalk.i64_in _ (by omega)]; omega
          have hdl : (L.drop lw).length = n - lw := by rw [List.length_drop, HN.out]
          have hcl : ¬ pc = lw := by omega
          have hle : lw ≤ n := by omega
          have hcv := conv_byt (w := w) (ao := some ⟨b, off + lw, none⟩) (c := pc - lw) hdl (fun _ => ⟨b, off + lw, rfl, hbl, hd.drop⟩)
          have hb2 : ∀ x ∈ L.drop lw, x < 256 := fun x hx => HB.out x (List.mem_of_mem_drop hx)
          obtain ⟨z, hz⟩ : ∃ z, strN (L.drop lw) = z := ⟨_, rfl⟩
          have hzb : bts z = L.drop lw := by rw [← hz]; exact bts_strN hb2
          have hzs : z.size = n - lw := by rw [← bts_len, hzb, hdl]
          have hz0 : 0 < z.size := by omega
          have hhd := head_bts hz0
          obtain ⟨x, hx⟩ : ∃ x, (z[0]).toNat = x := ⟨_, rfl⟩
          rw [hx] at hhd
          have hx256 : x < 256 := by rw [← hx]; exact (z[0]).toNat_lt
          have hxi : (x : Int) < 256 := by omega
          have kx := KF.out x hx256
          have hrow := HI.out x hx256
          obtain ⟨fo, fc, hf⟩ := own_form hrow
          obtain ⟨N, hN⟩ : ∃ N, (idxs ps x).length = N := ⟨_, rfl⟩
          rw [hN] at hf hrow
          rw [hf] at kx hrow
          have hNle : N ≤ 4096 := by rw [← hN]; unfold idxs; exact Nat.le_trans (List.length_filter_le _ _) (by simp; exact hps)
          rw [hz] at hcv
          have HR := Lib.hid hrow
          have HNX := Lib.hid hN
          have HZB := Lib.hid hzb
          have HZS := Lib.hid hzs
          have HHD := Lib.hid hhd
          have HLW := Lib.hid hlw
          clear hno hd hdl hb2 hz hzb hzs hhd hf hrow hN hlw
          go_upto_region 6 with fail
          go_quiet (fail)
          go_wp2
          go_loopw [8] (fun i wr => ∃ (j q' : Nat), j ≤ N ∧ i = .int .i64 (j : Int) ∧ wr = w.drewN q' ∧ ∀ i, i < j → (bts (ps.getD ((idxs ps x).getD i 0) .empty)).take k ≠ L.drop lw) (fun i _ => N - (intOf i).toNat)
          case atStart => exact ⟨0, _, by omega, rfl, World.drewN_drewN w q nq, fun i hi => absurd hi (Nat.not_lt_zero _)⟩
          case round =>
            obtain ⟨j, q', hj, rfl, rfl, hno⟩ := hrel
            by_cases hlt : j < N
            · have NO2 := Lib.hid hno
              obtain ⟨y, hy⟩ : ∃ y, (idxs ps x).getD j 0 = y := ⟨_, rfl⟩
              have hjl : j < (idxs ps x).length := by rw [HNX.out]; exact hlt
              have hym : y ∈ idxs ps x := by rw [← hy]; simp only [List.getD, List.getElem?_eq_getElem hjl, Option.getD_some]; exact List.getElem_mem _
              obtain ⟨hy1, hy2⟩ := mem_idxs.1 hym
              obtain ⟨fb, rfl⟩ := own_some HR.out (by omega)
              obtain ⟨lb, rfl⟩ := own_some HS.out (by omega)
              have e1 := (row_there HR.out (j := j) (by simp; omega)).1
              rw [show ((idxs ps x).map fun k : Nat => Value.int .i64 (k : Int)).getD j undef = .int .i64 (y : Int) by rw [← hy]; simp [List.getD, hjl]] at e1
              have e2 := (row_there HS.out (j := y) (by simp; omega)).1
              have hss := HZ.out y hy1
              have hmem : bts (ps.getD y .empty) ∈ ps.map bts := by
                refine List.mem_map.2 ⟨ps.getD y .empty, ?_, rfl⟩
                simp only [List.getD, List.getElem?_eq_getElem hy1, Option.getD_some]; exact List.getElem_mem _
              obtain ⟨s, hs⟩ : ∃ s, ps.getD y .empty = s := ⟨_, rfl⟩
              rw [show (ps.map Value.string).getD y undef = .string s by rw [← hs]; simp [List.getD, hy1]] at e2
              rw [hs] at hss hmem
              have hks : k ≤ s.size := by omega
              have hbx := ext_bts s k
              obtain ⟨zz, hzz⟩ : ∃ zz, s.extract 0 k = zz := ⟨_, rfl⟩
              rw [hzz] at hbx
              have hyi : (y : Int) < (ps.length : Int) := by omega
              by_cases heq : zz = z
              · have HP := Lib.hid (show HeldOf (ps.map bts) wd L k from ⟨by rw [HN.out]; exact hk, .inr ⟨bts s, hmem, by rw [← hbx, heq, HZB.out, HN.out, HLW.out]⟩, by rw [HN.out]; exact NO.out⟩)
                subst heq
                clear hno hmem hbx hs hy hym hy2 hss
                go_upto_region 10 with fail
                go_quiet (fail)
                go_wp2
                all_goals go_ret
                all_goals exact ⟨_, HP.out, rfl, _, World.drewN_drewN w _ _⟩
              · have HR2 := Lib.hid (show ∀ i, i < j + 1 → (bts (ps.getD ((idxs ps x).getD i 0) .empty)).take k ≠ L.drop lw from fun i hi => by
                  by_cases e : i = j
                  · subst e; rw [hy, hs, ← hbx, ← HZB.out]; exact fun e => heq (bts_inj e)
                  · exact NO2.out i (by omega))
                have heq2 := bytes_ne heq
                clear hno hmem hbx hs hy hym hy2 hss
                go_upto_region 10 with fail
                go_quiet (fail)
                go_wp2
                go_roundw
                case rel => exact ⟨j + 1, _, by omega, by go_num, rfl, HR2.out⟩
                case measure => simp [intOf]; omega
            · obtain rfl : j = N := by omega
              have HNO := Lib.hid (show ∀ k', k - 1 < k' → k' ≤ min (wd - 1) n → ∀ p, p ∈ ps.map bts → p.take k' ≠ L.drop (n - k') from fun k' h1 h2 p hp => by
                by_cases e : k' = k
                · subst e
                  rw [HLW.out]
                  intro he
                  obtain ⟨s, hs, rfl⟩ := List.mem_map.1 hp
                  obtain ⟨y, hy, rfl⟩ := List.mem_iff_getElem.1 hs
                  have hg : ps.getD y .empty = ps[y] := by simp [List.getD, hy]
                  have hym : y ∈ idxs ps x := mem_idxs.2 ⟨hy, by
                    rw [hg, ← HHD.out, HZB.out, ← he]
                    cases bts ps[y] with
                    | nil => simp
                    | cons u v => cases k' with
                      | zero => omega
                      | succ k => simp⟩
                  obtain ⟨i, hi, hiy⟩ := List.mem_iff_getElem.1 hym
                  refine hno i (by rw [← HNX.out]; exact hi) ?_
                  rw [show (idxs ps x).getD i 0 = y by simp [List.getD, hi, hiy], hg]; exact he
                · exact NO.out k' (by omega) h2 p hp)
              have s2 : IntKind.i64.wrap ((k : Int) - 1) = ((k - 1 : Nat) : Int) := by rw [IntWalk.i64_in _ (by omega)]; omega
              clear hno
              go_wp2
              go_roundw
              case rel => exact ⟨k - 1, _, by omega, by go_num, rfl, HNO.out⟩
              case measure => simp [intOf]; omega
        · obtain rfl : k = 0 := by omega
          go_wp2
          go_ret
          exact ⟨0, ⟨Nat.zero_le _, .inl rfl, by rw [HN.out]; exact hno⟩, rfl, q, rfl⟩

theorem refHeldN_nil (w : World) : Calls Try.prog 34 #[.pointer none] w fun e w' => e = .returned (.int .i64 0) ∧ w' = w := by
  go_enter Try.func34, Try.ntmps34
  go_wp2
  go_ret
  exact ⟨rfl, rfl⟩
set_option maxRecDepth 100000 in
theorem refHeldN {et : TypeId} {ex : Array Value} {B : Nat} {w : World} {base rb db wd : Nat} {ps : List ByteArray} {lv : Value} {F : Nat → Value} {D : List Nat} (h5 : RefAt w base rb wd ps lv F) (h0 : newE ps = 0) (hwd : wdOf ps = wd) (hc : RefSc et ex B w db rb wd D) (hbD : ∀ b ∈ D, b < 256) :
    Calls Try.prog 34 #[.pointer (some ⟨db, 0, none⟩)] w fun e w' => ∃ r : Nat, IsHeld (ps.map bts) wd D r ∧ e = .returned (.int .i64 (r : Int)) ∧ ∃ q, w' = w.drewN q := by
  obtain ⟨lo, lc, c1, c2, c3, _⟩ := hc
  obtain ⟨k, hk⟩ : ∃ k, (lastOf wd D).length = k := ⟨_, rfl⟩
  have hl := lastOf_len wd D
  have hw64 : wd ≤ 64 := by rw [← hwd]; exact wd_le h0
  rw [hk] at c1 c3
  have e0 : w.cell? ⟨db, 0, none⟩ = some (.pointer (some ⟨rb, 0, none⟩)) := c1.cell rfX_0
  have e1 : w.cell? ⟨db, 1, none⟩ = some (.slice lo k lc) := c1.cell rfX_1
  have HC := Lib.hid (refHeld_any (w := w.drew) (pc := lc) (ao := lo) (h5.below ((Below.refl _ w).drew)) hk c3 (fun b hb => hbD b (lastOf_mem hb)) (newE0 h0).1 hw64 (fun k hk => by rw [← hwd]; exact ((newE0 h0).2.1 k hk).1) c2.byt (by omega))
  clear c1 c2 c3 hk hl h5 hbD
  go_enter Try.func34, Try.ntmps34
  go_upto_region 3 with fail
  refine region_tail 8 (by kernel_rfl) (by kernel_rfl) ?_
  simp only [List.take_succ_cons, List.take_zero, List.drop_succ_cons, List.drop_zero]
  repeat still_step
  refine wpStill_nil ?_
  go_wp2_with (go_at_call 65; refine HC.out.mono ?_; rintro e w' ⟨r, hr, rfl, q, rfl⟩; have HR := Lib.hid hr; clear hr)
  go_ret
  exact ⟨r, heldOf_is HR.out, rfl, _, rfl⟩
end Go.Proofs.Ythkaicbkcaiffaa
