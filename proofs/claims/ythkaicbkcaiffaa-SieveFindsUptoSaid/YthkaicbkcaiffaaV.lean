/-
  The reference's Scan. Conditions: none.
-/
import Derived.Test.YthkaicbkcaiffaaU
namespace Go.Proofs.Ythkaicbkcaiffaa
open Go.RowKit

theorem ByteCells.drop {w : World} {b off j : Nat} {l : List Nat} (h : ByteCells w b off l) : ByteCells w b (off + j) (l.drop j) := by
  intro i hi
  have hi2 : j + i < l.length := by simp at hi; omega
  rw [Nat.add_assoc, h (j + i) hi2]
  simp [List.getD]
theorem ByteCells.lt {w : World} {b off : Nat} {l : List Nat} (h : ByteCells w b off l) (h0 : 0 < l.length) : b < w.heap.size := by
  have := h 0 h0
  by_cases hb : b < w.heap.size
  · exact hb
  · unfold World.cell? at this; simp [Array.getElem?_eq_none (show w.heap.size ≤ b by omega)] at this
def RsRel (P : List (List Nat)) (wd : Nat) (l : List Nat) (w : World) (j : Nat) (hv : Value) (wr : World) : Prop :=
  Below w.heap.size w wr ∧ wr.ownsRow w.heap.size 44 2 hv (refHits P wd l j).length (hcs (refHits P wd l j))

set_option maxRecDepth 100000 in
set_option maxHeartbeats 1000000 in
theorem refScan_at {w : World} {base rb wd n pc : Nat} {ps : List ByteArray} {lv : Value} {F : Nat → Value} {ao : Option Addr} {l : List Nat} (h : RefAt w base rb wd ps lv F) (hn : l.length = n) (hpc : n ≤ pc) (hb : ∀ b ∈ l, b < 256) (hps : ps.length ≤ 4096) (hwd : wd ≤ 64) (hwd1 : 1 ≤ wd)
    (hnd : (ps.map bts).Nodup) (hmax : n < 1099511627776) (hl : 0 < n → ∃ b off, ao = some ⟨b, off, none⟩ ∧ ByteCells w b off l) :
    Calls Try.prog 24 #[.pointer (some ⟨rb, 0, none⟩), .slice ao n pc] w fun e w' => ∃ hv, e = .returned hv ∧ RsRel (ps.map bts) wd l w (n + 1 - wd) hv w' := by
  have HH := Lib.hid h
  have HB := Lib.hid hb
  have HND := Lib.hid hnd
  have hrb : rb < w.heap.size := by obtain ⟨cs, c0, _⟩ := h.head; exact c0.lt
  have k2 : w.cell? ⟨rb, 257, none⟩ = some (.int .i64 (wd : Int)) := by obtain ⟨cs, c0, c1, c2, c3⟩ := h.head; exact c0.cell c2
  have hz : ((wd : Int) == 0) = false := by simp; omega
  have HL := Lib.hid hl
  clear h hb hnd hl
  go_enter Try.func24, Try.ntmps24
  go_wp2
  go_loopw [5, 6] (fun u i wr => ∃ (j : Nat) (hv : Value), j ≤ n + 1 - wd ∧ i = .int .i64 (j : Int) ∧ hv = u ∧ RsRel (ps.map bts) wd l w j hv wr) (fun _ i _ => n + 1 - wd - (intOf i).toNat)
  case atStart => exact ⟨0, _, by omega, rfl, rfl, Below.refl _ _, World.ownsRow_nil _ _ _ _⟩
  case round =>
    obtain ⟨j, hv, hj, rfl, rfl, hbw, hrow⟩ := hrel
    have hR := HH.out.below (hbw.mono (Nat.le_refl _))
    have k3 : wr.cell? ⟨rb, 257, none⟩ = some (.int .i64 (wd : Int)) := by obtain ⟨cs, c0, c1, c2, c3⟩ := hR.head; exact c0.cell c2
    have hsz := hbw.size
    by_cases hlt : j + wd ≤ n
    · obtain ⟨b, off, rfl, hd⟩ := HL.out (by omega)
      have hbl := hd.lt (by omega)
      have hd2 := (hd.below hbw hbl).drop (j := j)
      have hat := refAt_any (pc := pc - j) (ao := some ⟨b, off + j, none⟩) hR (show (l.drop j).length = n - j by simp [hn]) (by omega) (fun x hx => HB.out x (List.mem_of_mem_drop hx)) hps hwd (fun _ => ⟨b, off + j, rfl, hd2⟩)
      have hval := fun r (hr : AtPost ps wd (l.drop j) r) => atPost_head HND.out hwd1 (by simp; omega) hr
      have HV := Lib.hid hval
      have HA := Lib.hid hat
      have B1 := Lib.hid hbw
      have R1 := Lib.hid hrow
      clear hd hd2 hat hval hR hbw hrow
      go_upto_if 34 with (go_at_call 61; refine HA.out.mono ?_; rintro e w2 ⟨r, hr, rfl, hb2⟩; have HVr := Lib.hid (HV.out r hr); have B2 := Lib.hid hb2; clear hr hb2)
      have hb3 : Below w.heap.size w w2 := B1.out.trans (B2.out.mono hsz)
      have hr3 := own_same R1.out fun x q => B2.out.block x (R1.out.lt x q).2
      cases hk : headK (ps.map bts) wd (l.drop j) with
      | none =>
        have hrv : r = -1 := by rw [HVr.out, hk]
        subst hrv
        have HR := Lib.hid (show RsRel (ps.map bts) wd l w (j + 1) hv w2 from ⟨hb3, by rw [refHits_succ, hk]; simp only [hitOf, List.append_nil]; exact hr3⟩)
        clear hb3 hr3 hk HVr HV HA
        go_wp2
        go_roundw
        case rel => exact ⟨j + 1, hv, by omega, by go_num, rfl, HR.out⟩
        case measure => simp [intOf]; omega
      | some k =>
        have hrv : r = k := by rw [HVr.out, hk]
        subst hrv
        have HE := Lib.hid (show refHits (ps.map bts) wd l (j + 1) = refHits (ps.map bts) wd l j ++ [((j : Int), k)] by rw [refHits_succ, hk]; rfl)
        clear hk HVr HV HA
        obtain ⟨ao, cv, hform⟩ := own_form hr3
        obtain ⟨N, hN⟩ : ∃ N, (refHits (ps.map bts) wd l j).length = N := ⟨_, rfl⟩
        rw [hN] at hform hr3
        subst hform
        have hNj : N ≤ j := by rw [← hN]; exact refHits_len _ _ _ _
        have hbs := hb3.size
        have hmx : N + 1 ≤ maxLen := by unfold maxLen; omega
        have hby : (N + 1) * 16 ≤ 140737488355328 := by omega
        have HN := Lib.hid hN
        have R3 := Lib.hid hr3
        have B3 := Lib.hid hb3
        clear hN hr3 hb3 B1 R1
        obtain ⟨i0, hi, hz0, hz1, hz2⟩ := info_parts info44
        go_wp2_with (first | (at_builtin; refine wpList_append_lies _ (by rfl) (.tmp 35) (.tmp 39) 22 (by rfl) w.heap.size 44 i0 (.agg #[.int .i64 0, .int .i64 0]) 2 16 Try.underlying22 hi hz0 hz1 hz2 (by rfl) (by decide) (.slice ao N cv) N (hcs (refHits (ps.map bts) wd l j)) (by rfl) (R3.out.alloc _) ⟨w2.heap.size, 0, none⟩ 1 1 [.int .i64 (j : Int), .int .i64 (k : Int)] (by rfl) (by rfl) (fun _ _ hj => alloc_cells _ _ hj) (hcs_one _ _) (by decide) hmx hby (le_alloc hbs) (w2.heap.size + 1) (size_alloc1 _ _) ?_; intro g cap2 w3 hown hgrow hat hlt3; have HO := Lib.hid hown; have HG := Lib.hid hgrow; clear hown hgrow hat))
        all_goals (go_roundw; case measure => (simp [intOf]; omega))
        all_goals refine ⟨j + 1, _, by omega, by go_num, rfl, ?_⟩
        all_goals refine ⟨((B3.out.alloc hbs _)).grown HG.out (le_alloc hbs) (fun x hx => (R3.out.lt x hx).1), ?_⟩
        all_goals rw [HE.out, hcs_snoc, List.length_append, HN.out]
        all_goals exact HO.out
    · obtain rfl : j = n + 1 - wd := by omega
      go_wp2
      go_ret
      exact ⟨hv, rfl, hbw, hrow⟩
end Go.Proofs.Ythkaicbkcaiffaa
