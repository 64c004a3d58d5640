/-
  Scanner.Feed: the walk. Conditions: none.
-/
import Derived.Test.YthkaicbkcaiffaaR
namespace Go.Proofs.Ythkaicbkcaiffaa
open Go.RowKit

/-- Bytes to be read; none need lie nowhere. -/
def Dat (w : World) (ao : Option Addr) (l : List Nat) : Prop := 0 < l.length → ∃ b off, ao = some ⟨b, off, none⟩ ∧ SrcB w b off l
theorem SrcB.ne_tag {w : World} {b b' off : Nat} {l : List Nat} {e : TypeId} {cs : Array Value} (h : SrcB w b off l) (h' : Blk w b' e cs) (he : e ≠ 5) : b ≠ b' := h.ne_blk h' he
def FeedRel (et : TypeId) (ex : Array Value) (T : Tb) (P : List (List Nat)) (wd sb cb at_ : Nat) (D l : List Nat) (w : World) (j : Nat) (hv : Value) (wr : World) : Prop :=
  ∃ node, Best T (D ++ l.take j) node ∧ Blk wr cb et (scX sb (at_ + j) node ex) ∧ Keep w.heap.size (fun k => k = cb) w wr ∧ wr.ownsRow w.heap.size 44 2 hv (hitsOf P wd at_ D (l.take j)).length (hcs (hitsOf P wd at_ D (l.take j)))
theorem hcs_one (a : Int) (k : Nat) : ∀ u ∈ [Value.int .i64 a, .int .i64 (k : Int)], u.oneCell' = true := by
  intro u hu; simp at hu; rcases hu with rfl | rfl <;> rfl
theorem take_snoc {l : List Nat} {j b : Nat} (hj : j < l.length) (hb : l.getD j 0 = b) : l.take (j + 1) = l.take j ++ [b] := by
  rw [List.take_add_one]
  have : l[j]? = some b := by rw [← hb]; simp [List.getD, hj]
  rw [this]; rfl
theorem Keep.row {w w' : World} {base n size B cb : Nat} {e : TypeId} {v : Value} {xs : List Value} (h : w.ownsRow base e size v n xs) (hk : Keep B (fun k => k = cb) w w') (hB : w.heap.size ≤ B) (hc : v.ownBlock ≠ some cb) : w'.ownsRow base e size v n xs :=
  own_same h fun b hb => hk.block b (Nat.lt_of_lt_of_le (h.lt b hb).2 hB) (fun e => hc (by rw [hb, e]))

theorem feed_post {et : TypeId} {ex : Array Value} {T : Tb} {P : List (List Nat)} {wd sb cb at_ j N g cap2 cv r k : Nat} {av : Int} {D l : List Nat} {w wc w3 : World} {o : Obj} {ao : Option Addr} (R1 : Best T (D ++ l.take (j + 1)) r) (E5 : Blk wc cb et (scX sb (at_ + (j + 1)) r ex)) (E6 : Keep w.heap.size (fun k => k = cb) w wc)
    (E9 : wc.ownsRow w.heap.size 44 2 (.slice ao N cv) N (hcs (hitsOf P wd at_ D (l.take j)))) (hcl : cb < w.heap.size)
    (HN : (hitsOf P wd at_ D (l.take j)).length = N) (HAV : ((at_ + j + 1 : Nat) : Int) - wd = av) (HH2 : hitsOf P wd at_ D (l.take (j + 1)) = hitsOf P wd at_ D (l.take j) ++ [(((at_ + j + 1 : Nat) : Int) - wd, k)])
    (HO : w3.ownsRow w.heap.size 44 2 (.slice (some ⟨g, 0, none⟩) (N + 1) cap2) (N + 1) (hcs (hitsOf P wd at_ D (l.take j)) ++ [.int .i64 av, .int .i64 (k : Int)])) (HG : (wc.alloc o).drew.drew.grownBy w3 (Value.slice ao N cv).ownBlock) :
    FeedRel et ex T P wd sb cb at_ D l w (j + 1) (.slice (some ⟨g, 0, none⟩) (N + 1) cap2) w3 := by
  have hbs := E6.size
  refine ⟨r, R1, grown_blk E5.alloc.drew.drew HG (fun e => by have := (E9.lt cb e.symm).1; omega), ((E6.alloc hbs o).drew.drew).grown HG (by show _ ≤ (wc.alloc o).heap.size; simp; omega) (fun k hk => .inl (E9.lt k hk).1), ?_⟩
  rw [HH2, HAV, hcs_snoc, List.length_append, HN]
  exact HO
theorem keep_one {w : World} {cb i B : Nat} {u : Value} : Keep B (fun k => k = cb) w (w.setCell ⟨cb, i, none⟩ u) := Keep.setCell (S := fun k => k = cb) (Keep.refl B _ w) (Or.inr rfl) u
set_option maxRecDepth 100000 in
set_option maxHeartbeats 2000000 in
theorem feed_at {w : World} {et : TypeId} {ex : Array Value} {base sb tb mb nb cap wd n cb at_ node m pc : Nat} {T : Tb} {P : List (List Nat)} {D l : List Nat} {ao : Option Addr} (h : SieveAt w base sb tb mb nb cap wd n T) (A : Auto T P wd) (hwd : wd ≤ 64)
    (he : ScE et) (hc : Blk w cb et (scX sb at_ node ex)) (hD : Best T D node) (hm : l.length = m) (hl : Dat w ao l) (hb : ∀ b ∈ l, b < 256) (hat : at_ + m < 1099511627776) :
    Calls Try.prog 29 #[.pointer (some ⟨cb, 0, none⟩), .slice ao m pc] w fun e w' => ∃ hv, e = .returned hv ∧ FeedRel et ex T P wd sb cb at_ D l w m hv w' := by
  have hcl := hc.lt
  have HH := Lib.hid h
  have HC := Lib.hid hc
  have HA := Lib.hid A
  have HB := Lib.hid hb
  have HL := Lib.hid hl
  have hstart := Lib.hid (show FeedRel et ex T P wd sb cb at_ D l w 0 (.slice none 0 0) w from ⟨node, by simpa using hD, hc, Keep.refl _ _ _, World.ownsRow_nil _ _ _ _⟩)
  clear h hc A hb hl hD
  go_enter Try.func29, Try.ntmps29
  go_wp2
  go_loopw [5, 13] (fun u i wr => ∃ (j : Nat) (hv : Value), j ≤ m ∧ i = .int .i64 (j : Int) ∧ hv = u ∧ FeedRel et ex T P wd sb cb at_ D l w j hv wr) (fun _ i _ => m - (intOf i).toNat)
  case atStart => exact ⟨0, _, by omega, rfl, rfl, hstart.out⟩
  case round =>
    clear hstart
    obtain ⟨j, hv, hj, rfl, rfl, hR⟩ := hrel
    by_cases hlt : j < m
    · obtain ⟨nd, r1, r2, r3, r4⟩ := hR
      have hS := HH.out.keep he HC.out r3
      obtain ⟨pb, off, rfl, hp⟩ := HL.out (by omega)
      have hpc : pb ≠ cb := hp.ne_blk HC.out he.1
      have hp1 := hp.of_block (r3.block pb hp.lt hpc)
      have cx := hp1.cells j (by omega)
      obtain ⟨b, hbj⟩ : ∃ b, l.getD j 0 = b := ⟨_, rfl⟩
      have hb256 : b < 256 := by
        rw [← hbj]; simp only [List.getD, List.getElem?_eq_getElem (show j < l.length by omega), Option.getD_some]
        exact HB.out _ (List.getElem_mem _)
      rw [hbj] at cx
      have htk := take_snoc (by omega) hbj
      have HHit := Lib.hid (show hitsOf P wd at_ D (l.take (j + 1)) = hitsOf P wd at_ D (l.take j) ++ hitOf (((at_ + j + 1 : Nat) : Int) - wd) (endK P (D ++ l.take (j + 1))) by
        rw [htk, hitsOf_snoc, List.length_take, Nat.min_eq_left (by omega)])
      have hnd := HA.out.lt _ _ r1
      obtain ⟨r, hr⟩ := Step.total HA.out.wf b nd hnd
      have hbest : Best T (D ++ l.take (j + 1)) r := by rw [htk, ← List.append_assoc]; exact HA.out.step _ _ _ _ r1 hr
      have hrl := HA.out.lt _ _ hbest
      have hmax := HA.out.wf.max
      have k0 : wr.cell? ⟨cb, 0, none⟩ = some (.pointer (some ⟨sb, 0, none⟩)) := r2.cell scX_0
      have k1 : wr.cell? ⟨cb, 1, none⟩ = some (.int .i64 ((at_ + j : Nat) : Int)) := r2.cell scX_1
      have k2 : wr.cell? ⟨cb, 2, none⟩ = some (.int .i32 (nd : Int)) := r2.cell scX_2
      have kf : ∀ i, wr.frozen? ⟨cb, i, none⟩ = false := fun i => r2.free
      have s0 : wr.cell? ⟨sb, 0, none⟩ = some (.int .i64 (wd : Int)) := hS.head.cell rfl
      have s2 : wr.cell? ⟨sb, 2, none⟩ = some (.pointer (some ⟨tb, 0, none⟩)) := hS.head.cell rfl
      have hst := step_at (w := wr.drew) (show TabAt wr.drew base tb mb nb cap T from ⟨hS.tab.head, hS.tab.map, hS.tab.row, hS.tab.b1, hS.tab.b2⟩) HA.out.wf hnd hr
      have HST := Lib.hid hst
      have R1 := Lib.hid hbest
      have R2 := Lib.hid r2
      have R3 := Lib.hid r3
      have R4 := Lib.hid r4
      have HS := Lib.hid hS
      clear hbest r1 r2 r3 r4 hS hst hr hp hp1 hbj
      go_upto_region 7 with fail
      go_cut [] (fun wx => Blk wx cb et (scX sb (at_ + j) r ex) ∧ Keep w.heap.size (fun k => k = cb) w wx ∧ wx.ownsRow w.heap.size 44 2 hv (hitsOf P wd at_ D (l.take j)).length (hcs (hitsOf P wd at_ D (l.take j))))
      case first =>
        refine region_tail 16 (by kernel_rfl) (by kernel_rfl) ?_
        simp only [List.take_succ_cons, List.take_zero, List.drop_succ_cons, List.drop_zero]
        repeat still_step
        still_call HST.out
        repeat still_step
        refine wpStill_nil ?_
        go_wp2
        go_meet
        have hne : hv.ownBlock ≠ some cb := fun e => by have := (R4.out.lt cb e).1; omega
        exact ⟨scX_set2 ▸ R2.out.drew.set, R3.out.drew.setCell (.inr rfl) _, Keep.row (B := wr.heap.size) R4.out keep_one.drew (Nat.le_refl _) hne⟩
      case rest =>
        obtain ⟨e2, e3, e4⟩ := hcut
        have E2 := Lib.hid e2
        have E3 := Lib.hid e3
        have E4 := Lib.hid e4
        have f1 : wc.cell? ⟨cb, 1, none⟩ = some (.int .i64 ((at_ + j : Nat) : Int)) := e2.cell scX_1
        have g1 : wc.frozen? ⟨cb, 1, none⟩ = false := e2.free
        have hsz := e3.size
        clear e2 e3 e4 k0 k1 k2 kf s0 s2 HST R2 R3 R4 cx
        go_upto_region 8 with fail
        go_cut [] (fun wx => Blk wx cb et (scX sb (at_ + (j + 1)) r ex) ∧ Keep w.heap.size (fun k => k = cb) w wx ∧ wx.ownsRow w.heap.size 44 2 hv (hitsOf P wd at_ D (l.take j)).length (hcs (hitsOf P wd at_ D (l.take j))))
        case first =>
          go_wp2
          go_meet
          have hne : hv.ownBlock ≠ some cb := fun e => by have := (E4.out.lt cb e).1; omega
          refine ⟨?_, E3.out.setCell (.inr rfl) _, Keep.row (B := wc.heap.size) E4.out keep_one (Nat.le_refl _) hne⟩
          have := E2.out.set (i := 1) (v := .int .i64 ((at_ + (j + 1) : Nat) : Int))
          rw [scX_set1] at this
          simpa [Int.add_assoc] using this
        case rest =>
          obtain ⟨e2, e3, e4⟩ := hcut
          have hS := HH.out.keep he HC.out e3
          have hsz2 := e3.size
          have k0 : wc.cell? ⟨cb, 0, none⟩ = some (.pointer (some ⟨sb, 0, none⟩)) := e2.cell scX_0
          have k1 : wc.cell? ⟨cb, 1, none⟩ = some (.int .i64 ((at_ + (j + 1) : Nat) : Int)) := e2.cell scX_1
          have k2 : wc.cell? ⟨cb, 2, none⟩ = some (.int .i32 (r : Int)) := e2.cell scX_2
          have s0 : wc.cell? ⟨sb, 0, none⟩ = some (.int .i64 (wd : Int)) := hS.head.cell rfl
          have s2 : wc.cell? ⟨sb, 2, none⟩ = some (.pointer (some ⟨tb, 0, none⟩)) := hS.head.cell rfl
          have S0 := hS.head
          have hwi := which_any (w := wc.drew) (show TabAt wc.drew base tb mb nb cap T from ⟨hS.tab.head, hS.tab.map, hS.tab.row, hS.tab.b1, hS.tab.b2⟩) HA.out.wf r hrl (by have := HA.out.wh r hrl; omega)
          have hwv := HA.out.endK R1.out
          obtain ⟨v, hv0⟩ : ∃ v, (T.nd r).which = v := ⟨_, rfl⟩
          rw [hv0] at hwi hwv
          have E5 := Lib.hid e2
          have E6 := Lib.hid e3
          have E7 := Lib.hid e4
          have HW := Lib.hid hwi
          have HV := Lib.hid hwv
          clear e2 e3 e4 hS hwi hwv hv0 f1 g1 E2 E3 E4
          go_upto_region 9 with fail
          refine region_still (by kernel_rfl) (by kernel_rfl) ?_
          repeat still_step
          still_call HW.out
          repeat still_step
          refine wpStill_nil ?_
          cases hk : endK P (D ++ l.take (j + 1)) with
          | none =>
            have hv1 : v = -1 := by rw [HV.out, hk]
            have HR := Lib.hid (show FeedRel et ex T P wd sb cb at_ D l w (j + 1) hv wc.drew from ⟨r, R1.out, E5.out, E6.out.drew, by rw [HHit.out, hk]; simp only [hitOf, List.append_nil]; exact E7.out⟩)
            clear HV hk HHit
            subst hv1
            go_wp2
            go_roundw
            case rel => exact ⟨j + 1, hv, by omega, by go_num, rfl, HR.out⟩
            case measure => simp [intOf]; omega
          | some k =>
            have hv1 : v = k := by rw [HV.out, hk]
            subst hv1
            have HH2 := Lib.hid (show hitsOf P wd at_ D (l.take (j + 1)) = hitsOf P wd at_ D (l.take j) ++ [(((at_ + j + 1 : Nat) : Int) - wd, k)] by rw [HHit.out, hk]; rfl)
            clear HV hk HHit
            obtain ⟨ao, cv, hform⟩ := own_form E7.out
            obtain ⟨N, hN⟩ : ∃ N, (hitsOf P wd at_ D (l.take j)).length = N := ⟨_, rfl⟩
            rw [hN] at hform
            subst hform
            obtain ⟨av, hav⟩ : ∃ av : Int, ((at_ + j + 1 : Nat) : Int) - wd = av := ⟨_, rfl⟩
            have hwr : IntKind.i64.wrap ((at_ : Int) + ((j : Int) + 1) - (wd : Int)) = av := by rw [IntWalk.i64_in _ (by omega), ← hav]; omega
            have HAV := Lib.hid hav
            clear hav
            have hNj : N ≤ j := by rw [← hN]; exact Nat.le_trans (hitsOf_len _ _ _ _ _) (by simp; omega)
            have hcbl : cb < wc.heap.size := by omega
            have hsbl := S0.lt
            have hbs : w.heap.size ≤ wc.heap.size := by omega
            have hmx : N + 1 ≤ maxLen := by unfold maxLen; omega
            have hby : (N + 1) * 16 ≤ 140737488355328 := by omega
            have E8 := E7.out
            rw [hN] at E8
            have E9 := Lib.hid E8
            have hne : some cb ≠ (Value.slice ao N cv).ownBlock := fun e => by have := (E8.lt cb e.symm).1; omega
            have HN := Lib.hid hN
            clear E7 E8 hN hNj
            obtain ⟨i0, hi, hz0, hz1, hz2⟩ := info_parts info44
            go_upto_region 11 with fail
            go_region_law (first | (refine step_append_lies _ (by rfl) (.tmp 54) (.tmp 69) 22 (by rfl) w.heap.size 44 i0 (.agg #[.int .i64 0, .int .i64 0]) 2 16 Try.underlying22 hi hz0 hz1 hz2 (by rfl) (by decide) (.slice ao N cv) N (hcs (hitsOf P wd at_ D (l.take j))) (by rfl) (E9.out.alloc _) ⟨wc.heap.size, 0, none⟩ 1 1 [.int .i64 av, .int .i64 (k : Int)] (by rfl) (by rfl) (fun _ _ hj => alloc_cells _ _ hj) (hcs_one _ _) (by decide) hmx hby (le_alloc hbs) (wc.heap.size + 1) (size_alloc1 _ _) ?_; intro g cap2 w3 hown hgrow hat hlt3; have HO := Lib.hid hown; have HG := Lib.hid hgrow; clear hown hgrow hat))
            all_goals go_wp2_with fail
            all_goals (go_roundw; case measure => (simp [intOf]; omega))
            all_goals refine ⟨j + 1, _, by omega, by go_num, rfl, ?_⟩
            all_goals exact feed_post R1.out E5.out E6.out E9.out hcl HN.out HAV.out HH2.out HO.out HG.out
    · obtain rfl : j = m := by omega
      go_wp2
      go_ret
      exact ⟨hv, rfl, hR⟩
end Go.Proofs.Ythkaicbkcaiffaa
