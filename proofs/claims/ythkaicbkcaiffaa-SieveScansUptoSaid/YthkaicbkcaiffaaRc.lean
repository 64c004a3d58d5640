/-
  The reference's Scanner fed: the walk. Conditions: none.
-/
import Derived.Test.YthkaicbkcaiffaaRb
namespace Go.Proofs.Ythkaicbkcaiffaa
open Go.RowKit

set_option maxRecDepth 100000 in
set_option maxHeartbeats 2000000 in
theorem refFeed_at {et : TypeId} {ex : Array Value} {B : Nat} {w : World} {base rb db wd m pc : Nat} {ps : List ByteArray} {lv : Value} {F : Nat → Value} {ao : Option Addr} {D l : List Nat} (h5 : RefAt w base rb wd ps lv F) (h0 : newE ps = 0) (hwd : wdOf ps = wd) (he : RfE et) (hc : RefSc et ex B w db rb wd D)
    (hm : l.length = m) (hl : Byt w ao l) (hb : ∀ b ∈ l, b < 256) (hbD : ∀ b ∈ D, b < 256) (hmax : D.length + m < 549755813888) :
    Calls Try.prog 30 #[.pointer (some ⟨db, 0, none⟩), .slice ao m pc] w fun e w' => ∃ hv, e = .returned hv ∧ RFeed et ex (ps.map bts) wd rb db D l w hv w' := by
  obtain ⟨lo, lc, c1, c2, c3, _⟩ := hc
  obtain ⟨n, hn⟩ : ∃ n, D.length = n := ⟨_, rfl⟩
  have hkl := lastOf_len wd D
  obtain ⟨k, hk⟩ : ∃ k, (lastOf wd D).length = k := ⟨_, rfl⟩
  have hw64 : wd ≤ 64 := by rw [← hwd]; exact wd_le h0
  rw [hk, hn] at c1 hkl
  rw [hn] at hmax
  have hkn : k ≤ n ∧ k ≤ 64 := by omega
  obtain ⟨hkn, hk64⟩ := hkn
  have k0 : w.cell? ⟨db, 0, none⟩ = some (.pointer (some ⟨rb, 0, none⟩)) := c1.cell rfX_0
  have k1 : w.cell? ⟨db, 1, none⟩ = some (.slice lo k lc) := c1.cell rfX_1
  have hbal : ∀ b ∈ lastOf wd D ++ l, b < 256 := fun b h => by
    rcases List.mem_append.1 h with h | h
    · exact hbD b (lastOf_mem h)
    · exact hb b h
  have hdb := c1.lt
  have C1 := Lib.hid c1
  have C2 := Lib.hid c2
  have HK := Lib.hid hk
  have HN := Lib.hid hn
  have HM := Lib.hid hm
  have HL := Lib.hid hl
  have H5 := Lib.hid h5
  have H0 := Lib.hid h0
  have HW := Lib.hid hwd
  have HBA := Lib.hid hbal
  have HKL := Lib.hid hkl
  have HR5w := Lib.hid (show ∀ wr, Below w.heap.size w wr → ∃ cs, Blk wr rb 91 cs ∧ cs[257]? = some (.int .i64 (wd : Int)) from fun wr hb => by
    obtain ⟨cs, x0, x1, x2, x3⟩ := (h5.below hb).head
    exact ⟨cs, x0, x2⟩)
  have HAL := Lib.hid (show (lastOf wd D ++ l).length = k + m by rw [List.length_append, hk, hm])
  obtain ⟨i0, a1, a2, a3, a4⟩ := info_parts infoU8
  have hbm : i0.bytes * (k + m) ≤ 281474976710656 := by rw [a4]; omega
  clear c1 c2 hk hn hm hl h5 h0 hwd hbal hkl hb hbD c3
  go_enter Try.func30, Try.ntmps30
  go_wp2_with (first
    | (at_make; refine wpList_make_own _ rfl _ _ 27 rfl w.heap.size 5 i0 (.int .u8 0) 1 Try.underlying27 a1 a2 a3 .i64 .i64 ((k : Int) + (m : Int)) (k + m) rfl rfl (by omega) hbm (by unfold maxLen; omega) (Nat.le_refl _) ?_; intro w1 hown1 hg1; have hB1 : Below w.heap.size w w1 := (Below.refl _ _).grown hg1 (Nat.le_refl _) (fun k h => by cases h); have q1 : w1.cell? ⟨db, 1, none⟩ = some (.slice lo k lc) := (C1.out.below hB1 hdb).cell rfX_1; have HO1 := Lib.hid hown1; have HB1 := Lib.hid hB1; clear hown1 hg1 hB1)
    | (at_builtin; obtain ⟨g2, cc2, w2, hrun, hown2, hB2, _, hcc2⟩ := append_bytes (pc := lc) HB1.out HB1.out.size (xs := []) HO1.out (C2.out.below HB1.out).byt HK.out (by omega); simp only [Nat.zero_add, List.nil_append] at hrun hown2; refine wpList_append_run (o := ⟨some 25, _, _, _, _, _⟩) rfl (.tmp 20) (.tmp 24) #[27, 27] rfl _ _ _ _ rfl rfl hrun ?_; have HO2 := Lib.hid hown2; have HB2 := Lib.hid hB2; clear hrun hown2 hB2 hcc2)
    | (at_builtin; obtain ⟨g3, cc3, w3, hrun, hown3, hB3, _, hcc3⟩ := append_bytes (pc := pc) HB2.out HB2.out.size (xs := lastOf wd D) HO2.out (HL.out.below HB2.out) HM.out (by omega); refine wpList_append_run (o := ⟨some 28, _, _, _, _, _⟩) rfl (.tmp 26) (.tmp 27) #[27, 27] rfl _ _ _ _ rfl rfl hrun ?_; have q3 : w3.cell? ⟨db, 0, none⟩ = some (.pointer (some ⟨rb, 0, none⟩)) := (C1.out.below hB3 hdb).cell rfX_0; have HO3 := Lib.hid hown3; have HB3 := Lib.hid hB3; clear hrun hown3 hB3)
    | (go_at_call 24; refine (rb_scan (H5.out.below HB3.out) H0.out HW.out HAL.out hcc3 (dat_of_own HO3.out).byt HBA.out (by omega)).mono ?_; rintro e w4 ⟨hv, hs, rfl, hb4, hr4, hpl, hlen, hsm⟩; have HB4 := Lib.hid hb4; have HR4 := Lib.hid hr4; have HPL := Lib.hid hpl; have HSM := Lib.hid hsm; clear hb4 hr4 hpl hsm))
  obtain ⟨ho, hc, rfl⟩ := own_form HR4.out
  obtain ⟨N, hN⟩ : ∃ N, hs.length = N := ⟨_, rfl⟩
  rw [hN] at hlen
  obtain ⟨d, hd⟩ : ∃ d : Int, (n : Int) - (k : Int) = d := ⟨_, rfl⟩
  have HLN := Lib.hid hN
  have HD := Lib.hid hd
  have hB4 : Below w.heap.size w w4 := HB3.out.trans (HB4.out.mono HB3.out.size)
  have hst := Lib.hid (show RfRel w w.heap.size ho N hc g3 (k + m) cc3 hs (lastOf wd D ++ l) d 0 w4 from
    ⟨hB4, own_same HO3.out fun x q => HB4.out.block x (HO3.out.lt x q).2, hs, Mix.start _ _, by have := row_mono HR4.out HB3.out.size; rw [hN] at this; exact this⟩)
  clear hN hd hB4 HR4 HB4
  rw [HLN.out]
  go_loopw [7] (fun i wr => ∃ j : Nat, j ≤ N ∧ i = .int .i64 (j : Int) ∧ RfRel w w.heap.size ho N hc g3 (k + m) cc3 hs (lastOf wd D ++ l) d j wr) (fun i _ => N - (intOf i).toNat)
  case atStart => exact ⟨0, by omega, rfl, hst.out⟩
  case round =>
    clear hst
    obtain ⟨j, hj, rfl, hR⟩ := hrel
    have hb := hR.1
    have hbs := hb.size
    have cd := C1.out.below hb hdb
    have e1 : wr.cell? ⟨db, 1, none⟩ = some (.slice lo k lc) := cd.cell rfX_1
    have e2 : wr.cell? ⟨db, 2, none⟩ = some (.int .i64 (n : Int)) := cd.cell rfX_2
    by_cases hlt : j < N
    · obtain ⟨_, _, hs', hx, hrow⟩ := id hR
      obtain ⟨g, rfl⟩ := own_some hrow (by omega)
      obtain ⟨a, ha⟩ : ∃ a, (hs.getD j (0, 0)).1 = a := ⟨_, rfl⟩
      have hjl : j < hs.length := by rw [HLN.out]; exact hlt
      have hg := hcs_get hs' j (by rw [hx.1]; exact hjl)
      rw [hx.2 j hjl, if_neg (Nat.lt_irrefl _), ha] at hg
      have f1 := ((row_cells hrow).2.2.2.2.2 _ _ hg.1).1
      have f2 := ((row_cells hrow).2.2.2.2.2 _ _ hg.1).2
      have hpl := HPL.out (hs.getD j (0, 0)) (by simp only [List.getD, List.getElem?_eq_getElem hjl, Option.getD_some]; exact List.getElem_mem _)
      rw [ha] at hpl
      obtain ⟨hp0, hp1⟩ := hpl
      obtain ⟨s1, hs1⟩ : ∃ s1 : Int, a + (n : Int) = s1 := ⟨_, rfl⟩
      obtain ⟨s2, hs2⟩ : ∃ s2 : Int, s1 - (k : Int) = s2 := ⟨_, rfl⟩
      have v1 : IntKind.i64.wrap (a + (n : Int)) = s1 := by rw [IntWalk.i64_in _ (by omega)]; exact hs1
      have v2 : IntKind.i64.wrap (s1 - (k : Int)) = s2 := by rw [IntWalk.i64_in _ (by omega)]; exact hs2
      have HR2 := Lib.hid (hR.drew.step hlt HLN.out (s2 := s2) (by rw [ha, ← HD.out]; omega))
      clear hR hx hrow hg ha hs1 hs2 hjl cd hb
      go_wp2
      refine region_tail 20 (by kernel_rfl) (by kernel_rfl) ?_
      simp only [List.take_succ_cons, List.take_zero, List.drop_succ_cons, List.drop_zero]
      repeat still_step
      refine wpStill_nil ?_
      go_wp2
      go_roundw
      case rel => exact ⟨j + 1, by omega, by go_num, HR2.out⟩
      case measure => simp [intOf]; omega
    · obtain rfl : j = N := by omega
      obtain ⟨_, hall, hs', hx, hrow⟩ := hR
      obtain ⟨H, hH⟩ : ∃ H, hitsOf (ps.map bts) wd n D l = H := ⟨_, rfl⟩
      have hfin : hs' = H := by
        have h1 := (show Mix hs d hs.length hs' by rw [HLN.out]; exact hx).fin
        have h2 := HSM.out D l rfl
        rw [HK.out, HN.out, HD.out, hH] at h2
        rw [h1, h2]
      subst hfin
      have h91 := HR5w.out wr hb
      obtain ⟨cs91, r1, r2⟩ := h91
      have hnd := cd.ne_tag r1 he.2.2.1
      have e3 : wr.frozen? ⟨db, 2, none⟩ = false := cd.free
      have HX := Lib.hid hx.1
      have HH := Lib.hid hH
      have HA := Lib.hid hall
      have HRo := Lib.hid hrow
      have HB := Lib.hid hb
      have CD := Lib.hid cd
      have R1 := Lib.hid r1
      have R2 := Lib.hid r2
      clear hx hall hrow hb cd hH r1 r2
      go_upto_region 11 with fail
      go_cut [] (fun wx => Blk wx db et (rfX rb lo k lc ((n : Int) + (m : Int)) ex) ∧ Keep w.heap.size (fun k => k = db) w wx ∧ wx.ownsRow w.heap.size 44 2 (.slice ho j hc) j (hcs hs') ∧ wx.ownsRow w.heap.size 5 1 (.slice (some ⟨g3, 0, none⟩) (k + m) cc3) (k + m) ((lastOf wd D ++ l).map fun x : Nat => .int .u8 (x : Int)) ∧ wx.cell? ⟨rb, 257, none⟩ = some (.int .i64 (wd : Int)))
      case first =>
        go_wp2
        go_meet
        have hq : ∀ x, w.heap.size ≤ x → x ≠ db := fun x hx e => by omega
        refine ⟨rfX_set2 ▸ CD.out.set, Keep.setCell (S := fun k => k = db) (Keep.of_below HB.out) (.inr rfl) _, own_same HRo.out fun x q => Below.heap_setCell _ _ _ _ (hq x (HRo.out.lt x q).1), own_same HA.out fun x q => Below.heap_setCell _ _ _ _ (hq x (HA.out.lt x q).1), ?_⟩
        exact (R1.out.set_ne (Ne.symm (fun e => hnd e.symm))).cell R2.out
      case rest =>
        obtain ⟨d1, d2, d3, d4, d5⟩ := hcut
        have D1 := Lib.hid d1
        have D2 := Lib.hid d2
        have D3 := Lib.hid d3
        have D4 := Lib.hid d4
        have p0 : wc.cell? ⟨db, 0, none⟩ = some (.pointer (some ⟨rb, 0, none⟩)) := d1.cell rfX_0
        have p1 : wc.cell? ⟨db, 1, none⟩ = some (.slice lo k lc) := d1.cell rfX_1
        have p2 : wc.frozen? ⟨db, 1, none⟩ = false := d1.free
        clear d1 d2 d3 d4 k0 k1 e1 e2 e3
        have w1' : IntKind.i64.wrap ((wd : Int) - 1) = (wd : Int) - 1 := IntWalk.i64_in _ (by omega)
        go_upto_if 80 with fail
        go_cut [8] (fun s wx => s = .int .i64 ((wd - 1 : Nat) : Int) ∧ wc = wx)
        case first =>
          by_cases h0 : wd = 0
          · subst h0
            go_wp2
            go_meet
            exact ⟨rfl, rfl⟩
          · have hz : decide ((wd : Int) - 1 < 0) = false := by simp; omega
            have hz2 : ¬ (wd : Int) < 1 := by omega
            go_wp2
            go_meet
            exact ⟨by go_num, rfl⟩
        case rest =>
          obtain ⟨rfl, rfl⟩ := hcut
          obtain ⟨v, hv⟩ : ∃ v, wd - 1 = v := ⟨_, rfl⟩
          rw [hv]
          go_upto_if 84 with fail
          go_cut [8] (fun s wx => s = .int .i64 ((min v (k + m) : Nat) : Int) ∧ wc = wx)
          case first =>
            by_cases h0 : k + m < v
            · go_wp2
              go_meet
              exact ⟨by rw [Nat.min_eq_right (by omega)]; go_num, rfl⟩
            · have hz : decide ((k : Int) + (m : Int) < (v : Int)) = false := by simp; omega
              go_wp2
              go_meet
              exact ⟨by rw [Nat.min_eq_left (by omega)], rfl⟩
          case rest =>
            obtain ⟨rfl, rfl⟩ := hcut
            obtain ⟨q, hq⟩ : ∃ q, min v (k + m) = q := ⟨_, rfl⟩
            rw [hq]
            obtain ⟨lw, hlw⟩ : ∃ lw : Nat, k + m - q = lw := ⟨_, rfl⟩
            have hq2 : q ≤ k + m := by omega
            have s1 : IntKind.i64.wrap ((k : Int) + (m : Int) - (q : Int)) = (lw : Int) := by rw [IntWalk.i64_in _ (by omega)]; omega
            have HQ := Lib.hid (show min (wd - 1) (k + m) = q by rw [hv]; exact hq)
            have HLW := Lib.hid hlw
            have hpost := Lib.hid (fun aa (haa : cc3 ≠ lw → aa = some ⟨g3, lw, none⟩) => rf_post (P := ps.map bts) (aa := aa) D1.out D2.out D3.out D4.out hdb HN.out HK.out HM.out (by rw [HX.out, HLN.out]) HH.out HQ.out hlw (by have := (row_cells D4.out).2.1; omega) haa)
            have hlw2 : lw ≤ k + m := by omega
            have hlw3 : lw ≤ cc3 := by omega
            clear hv hq hlw
            by_cases hcl : cc3 = lw
            · go_wp2
              go_ret
              have h := hpost.out (some ⟨g3, 0, none⟩) (fun h => absurd hcl h)
              rw [show cc3 - lw = 0 by omega] at h
              exact ⟨_, rfl, h⟩
            · go_wp2
              go_ret
              exact ⟨_, rfl, hpost.out _ (fun _ => rfl)⟩
end Go.Proofs.Ythkaicbkcaiffaa
