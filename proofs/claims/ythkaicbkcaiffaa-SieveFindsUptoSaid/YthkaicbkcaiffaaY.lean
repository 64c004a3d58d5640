/-
  The reference's New: the walk. Conditions: none.
-/
import Derived.Test.YthkaicbkcaiffaaX
namespace Go.Proofs.Ythkaicbkcaiffaa
open Go.RowKit

theorem info9 : (Try.prog.info? 9).map (fun i => (i.zero, i.size, i.bytes)) = some (some (.string .empty), 1, 16) := by kernel_rfl
theorem info3 : (Try.prog.info? 3).map (fun i => (i.zero, i.size, i.bytes)) = some (some (.int .i64 0), 1, 8) := by kernel_rfl
def RefNewPost (ps : List ByteArray) (w : World) (e : Ending) (w' : World) : Prop :=
  Below w.heap.size w w' ∧ ((newE ps ≠ 0 ∧ e = .returned (.tuple #[.pointer none, .int .i64 (newE ps : Int)])) ∨
    (newE ps = 0 ∧ ∃ rb lv F, e = .returned (.tuple #[.pointer (some ⟨rb, 0, none⟩), .int .i64 0]) ∧ RefAt w' w.heap.size rb (wdOf ps) ps lv F))
theorem newE_long {ps : List ByteArray} (h : 4096 < ps.length) : newE ps = 1 := by unfold newE; rw [if_pos h]
theorem newE_pattern {ps : List ByteArray} (h : ¬ 4096 < ps.length) (i : Nat) (hi : i < ps.length) (hn : ¬ lenOk ps (ps.getD i .empty)) : newE ps = 50 := by unfold newE; rw [if_neg h, if_pos ⟨i, hi, hn⟩]
theorem newE_twice {ps : List ByteArray} (h : ¬ 4096 < ps.length) (ho : ∀ i, i < ps.length → lenOk ps (ps.getD i .empty)) (hn : ¬ (ps.map bts).Nodup) : newE ps = 51 := by unfold newE; rw [if_neg h, if_neg (fun ⟨i, hi, hn⟩ => hn (ho i hi)), if_neg hn]
theorem newE_ok {ps : List ByteArray} (h : ¬ 4096 < ps.length) (ho : ∀ i, i < ps.length → lenOk ps (ps.getD i .empty)) (hn : (ps.map bts).Nodup) : newE ps = 0 := by unfold newE; rw [if_neg h, if_neg (fun ⟨i, hi, hn⟩ => hn (ho i hi)), if_pos hn]

def Rn1 (ps : List ByteArray) (wd : Nat) (w : World) (j : Nat) (wr : World) : Prop :=
  RefRaw wr w.heap.size w.heap.size (if j = 0 then 0 else wd) [] (fun _ => []) (.slice none 0 0) (fun _ => .slice none 0 0) ∧ Below w.heap.size w wr ∧ ∀ i, i < j → lenOk ps (ps.getD i .empty)
def Rn2 (ps : List ByteArray) (wd : Nat) (w : World) (j : Nat) (wr : World) : Prop :=
  ∃ lv F, RefAt wr w.heap.size w.heap.size wd (ps.take j) lv F ∧ Below w.heap.size w wr ∧ ((ps.take j).map bts).Nodup

theorem conv_bytes2 (w : World) (s : ByteArray) : ∃ c w2, (convert 9 27 (.string s)).run Try.prog w = .ok (.slice (some ⟨w.heap.size, 0, none⟩) s.size c) w2 ∧ SrcB w2 w.heap.size 0 (bts s) ∧ Below w.heap.size w w2 ∧ s.size ≤ c := by
  obtain ⟨c, w2, h1, h2, h3⟩ := conv_bytes w s
  refine ⟨c, w2, h1, h2, h3, ?_⟩
  rw [run_bytes_of_string w 9 27 5 s Try.underlying9 Try.underlying27 Try.underlying5] at h1
  injection h1 with h1 _
  injection h1 with _ _ h4
  rw [← h4]; exact grownCap_ge _ _ _ _
theorem twice_not {ps : List ByteArray} {j k : Nat} (hk : k < j) (hj : j < ps.length) (h : bts (ps.getD k .empty) = bts (ps.getD j .empty)) : ¬ (ps.map bts).Nodup := by
  intro hn
  have e : (ps.map bts)[k]? = (ps.map bts)[j]? := by
    have g : ∀ i, i < ps.length → (ps.map bts)[i]? = some (bts (ps.getD i .empty)) := fun i hi => by simp [List.getD, hi]
    rw [g k (by omega), g j hj, h]
  have := (List.getElem?_inj (by simp; omega) hn).1 e
  omega
theorem take_snoc_b {ps : List ByteArray} {j : Nat} (hj : j < ps.length) : ps.take (j + 1) = ps.take j ++ [ps.getD j .empty] := by
  rw [List.take_add_one]
  have : ps[j]? = some (ps.getD j .empty) := by simp [List.getD, hj]
  rw [this]; rfl
theorem getD_take {ps : List ByteArray} {j k : Nat} (h : k < j) : (ps.take j).getD k .empty = ps.getD k .empty := by simp [List.getD, h]
theorem idxs_snoc (S : List ByteArray) (s : ByteArray) (b : Nat) : idxs (S ++ [s]) b = idxs S b ++ (if b = (bts s).headD 0 then [S.length] else []) := by
  unfold idxs
  rw [List.length_append, List.length_singleton, List.range_succ, List.filter_append]
  congr 1
  · refine List.filter_congr fun i hi => ?_
    have hi : i < S.length := by simpa using hi
    simp [List.getD, List.getElem?_append_left hi]
  · by_cases h : b = (bts s).headD 0
    · subst h; simp [List.getD]
    · rw [if_neg h]; simp [List.getD]; simpa [eq_comm] using h
theorem head_bts {s : ByteArray} (h : 0 < s.size) : (bts s).headD 0 = (s[0]).toNat := by
  have hl : 0 < s.data.toList.length := by simpa using h
  unfold bts
  rw [List.headD_eq_head?_getD, List.head?_map, List.head?_eq_getElem?, List.getElem?_eq_getElem hl]; rfl
theorem rn2_post {ps : List ByteArray} {s0 : ByteArray} {wd q x N g cap2 : Nat} {w wc w4 : World} {fo : Option Addr} {fc : Nat} {lv : Value} {F : Nat → Value} {o : Obj} (hq : q < ps.length) (hs0 : ps.getD q .empty = s0)
    (hr : RefRaw wc w.heap.size w.heap.size wd (ps.take q ++ [s0]) (idxs (ps.take q)) lv F) (hb : Below w.heap.size w wc) (hx : x < 256) (hxs : (bts s0).headD 0 = x) (hF : F x = .slice fo N fc) (hN : (idxs (ps.take q) x).length = N)
    (hnd : ((ps.take q).map bts).Nodup) (hnew : bts s0 ∉ (ps.take q).map bts)
    (hO : w4.ownsRow w.heap.size 3 1 (.slice (some ⟨g, 0, none⟩) (N + 1) cap2) (N + 1) (((idxs (ps.take q) x).map fun k : Nat => .int .i64 (k : Int)) ++ [.int .i64 (q : Int)]))
    (hG : (wc.alloc o).drew.grownBy w4 (Value.slice fo N fc).ownBlock) (hat : (Value.slice fo N fc).ownBlock = some g ∨ g = wc.heap.size + 1) :
    Rn2 ps wd w (q + 1) (w4.setCell ⟨w.heap.size, 1 + x, none⟩ (.slice (some ⟨g, 0, none⟩) (N + 1) cap2)) := by
  have hbs := hb.size
  have h2 := (hr.below (((Below.refl _ wc).alloc (Nat.le_refl _) o).drew)).putI (k := q) (u' := .slice (some ⟨g, 0, none⟩) (N + 1) cap2) hx (by rw [hN]; exact hO) (by rw [hF]; exact hG)
    (by rw [hF]; rcases hat with h | h
        · exact .inl h
        · exact .inr ⟨g, rfl, by rw [h]; show (wc.alloc o).heap.size ≤ _; simp⟩)
  have hfun : (fun b => if b = x then idxs (ps.take q) x ++ [q] else idxs (ps.take q) b) = idxs (ps.take (q + 1)) := by
    funext b
    rw [take_snoc_b hq, hs0, idxs_snoc, hxs]
    by_cases e : b = x
    · subst e; simp; omega
    · simp [e]
  rw [hfun] at h2
  refine ⟨lv, _, RefRaw.at (ps := ps.take (q + 1)) (by rw [take_snoc_b hq, hs0] at h2 ⊢; exact h2), ?_, ?_⟩
  · exact (((hb.alloc hbs o).drew).grown hG (by show _ ≤ (wc.alloc o).heap.size; simp; omega) (fun k hk => by
      have := (hr.idx x hx).lt k (by rw [hF]; exact hk)
      exact this.1)).setCell (Nat.le_refl _) _
  · rw [take_snoc_b hq, hs0, List.map_append, List.nodup_append]
    refine ⟨hnd, by simp, fun a ha b hb' => ?_⟩
    simp at hb'; subst hb'
    rintro rfl; exact hnew ha
set_option maxRecDepth 100000 in
set_option maxHeartbeats 2000000 in
theorem refNew_any {w : World} (ao : Option Addr) (cap n : Nat) (ps : List ByteArray) (hn : ps.length = n) (hs : Strs w ao ps) :
    Calls Try.prog 60 #[.slice ao n cap] w (RefNewPost ps w) := by
  by_cases hlong : 4096 < n
  · have hpost := Lib.hid (show RefNewPost ps w (.returned (.tuple #[.pointer none, .int .i64 1])) w from ⟨Below.refl _ _, .inl (by rw [newE_long (by omega)]; exact ⟨by decide, rfl⟩)⟩)
    go_enter Try.func60, Try.ntmps60
    go_wp2
    go_ret2
    exact hpost.out
  · have hS := Lib.hid hs
    obtain ⟨wd, hwd⟩ : ∃ wd, wdOf ps = wd := ⟨_, rfl⟩
    have hstart := Lib.hid (show Rn1 ps wd w 0 (w.alloc (.cells Try.zeroCells91 91)) from ⟨ref_new w, (Below.refl _ w).alloc (Nat.le_refl _) _, fun i hi => absurd hi (Nat.not_lt_zero _)⟩)
    have HW := Lib.hid hwd
    clear hs hwd
    go_enter Try.func60, Try.ntmps60
    go_wp2
    go_loopw [5] (fun i wr => ∃ j : Nat, j ≤ n ∧ i = .int .i64 (j : Int) ∧ Rn1 ps wd w j wr) (fun i _ => n - (intOf i).toNat)
    case atStart => exact ⟨0, by omega, rfl, hstart.out⟩
    case round =>
      clear hstart
      obtain ⟨j, hj, rfl, hR, hB, hO⟩ := hrel
      have hSr := hS.out.below (hB.mono (Nat.le_refl _))
      by_cases hlt : j < n
      · obtain ⟨b, off, rfl, hb, hc⟩ := hSr (by omega)
        have cj := hc j (by omega)
        obtain ⟨s0, hs0⟩ : ∃ s0, ps.getD j .empty = s0 := ⟨_, rfl⟩
        rw [hs0] at cj
        have hrb : w.heap.size < wr.heap.size := by obtain ⟨cs, c0, _⟩ := hR.head; exact c0.lt
        by_cases hl : s0.size = wd ∧ 1 ≤ wd ∧ wd ≤ 64
        · obtain ⟨hl0, hl1, hl2⟩ := hl
          have hok := Lib.hid (show ∀ i, i < j + 1 → lenOk ps (ps.getD i .empty) from fun i hi => by
            by_cases e : i = j
            · subst e; rw [hs0]; unfold lenOk; rw [HW.out]; exact ⟨hl0, hl1, hl2⟩
            · exact hO i (by omega))
          have hz : ((wd : Int) == 0) = false := by simp; omega
          by_cases h0 : j = 0
          · have HN := Lib.hid (show Rn1 ps wd w (j + 1) (wr.setCell ⟨w.heap.size, 257, none⟩ (.int .i64 (wd : Int))) from ⟨by rw [if_neg (by omega)]; exact hR.setW, hB.setCell (Nat.le_refl _) _, hok.out⟩)
            have kf : ∀ i, wr.frozen? ⟨w.heap.size, i, none⟩ = false := fun i => by obtain ⟨cs, c0, _⟩ := hR.head; exact c0.free
            have hzj : ((j : Int) == 0) = true := by simp [h0]
            have kl : ∃ u, wr.cell? ⟨w.heap.size, 257, none⟩ = some u := by obtain ⟨cs, c0, c1, c2, c3⟩ := hR.head; exact ⟨_, c0.cell c2⟩
            obtain ⟨u, hu⟩ := kl
            clear hR hB hO hSr hc hs0 hok h0
            subst hl0
            go_wp2
            go_roundw
            case rel => exact ⟨j + 1, by omega, by go_num, HN.out⟩
            case measure => simp [intOf]; omega
          · have k2 : wr.cell? ⟨w.heap.size, 257, none⟩ = some (.int .i64 (wd : Int)) := by
              obtain ⟨cs, c0, c1, c2, c3⟩ := hR.head
              rw [if_neg h0] at c2; exact c0.cell c2
            have hzj : ((j : Int) == 0) = false := by simp; omega
            have HN := Lib.hid (show Rn1 ps wd w (j + 1) wr from ⟨by rw [if_neg h0] at hR; rw [if_neg (by omega)]; exact hR, hB, hok.out⟩)
            clear hR hB hO hSr hc hs0 hok
            subst hl0
            go_wp2
            go_roundw
            case rel => exact ⟨j + 1, by omega, by go_num, HN.out⟩
            case measure => simp [intOf]; omega
        · have hpost := fun w3 (hb3 : Below w.heap.size w w3) => (show RefNewPost ps w (.returned (.tuple #[.pointer none, .int .i64 50])) w3 from ⟨hb3, .inl (by rw [newE_pattern (by omega) j (by omega) (by rw [hs0]; unfold lenOk; rw [HW.out]; exact hl)]; exact ⟨by decide, rfl⟩)⟩)
          have kf : ∀ i, wr.frozen? ⟨w.heap.size, i, none⟩ = false := fun i => by obtain ⟨cs, c0, _⟩ := hR.head; exact c0.free
          have HP := Lib.hid hpost
          have HB1 := Lib.hid hB
          by_cases h0 : j = 0
          · have hwd0 : s0.size = wd := by
              rw [← hs0, ← HW.out, h0]; cases ps <;> rfl
            have hl2 : ¬ (1 ≤ s0.size ∧ s0.size ≤ 64) := fun e => hl ⟨hwd0, by omega, by omega⟩
            have hzj : ((j : Int) == 0) = true := by simp [h0]
            obtain ⟨u, hu⟩ : ∃ u, wr.cell? ⟨w.heap.size, 257, none⟩ = some u := by obtain ⟨cs, c0, c1, c2, c3⟩ := hR.head; exact ⟨_, c0.cell c2⟩
            clear hR hB hO hSr hc hs0 hpost hl h0
            by_cases hz : s0.size = 0
            · have hz2 : ((s0.size : Int) == 0) = true := by simp [hz]
              go_wp2
              all_goals go_ret2
              all_goals exact HP.out _ (HB1.out.setCell (Nat.le_refl _) _)
            · have hz2 : ((s0.size : Int) == 0) = false := by simp [hz]
              go_wp2
              all_goals go_ret2
              all_goals exact HP.out _ (HB1.out.setCell (Nat.le_refl _) _)
          · have k2 : wr.cell? ⟨w.heap.size, 257, none⟩ = some (.int .i64 (wd : Int)) := by
              obtain ⟨cs, c0, c1, c2, c3⟩ := hR.head
              rw [if_neg h0] at c2; exact c0.cell c2
            have hzj : ((j : Int) == 0) = false := by simp; omega
            clear hR hB hO hSr hc hs0 hpost
            by_cases hz : s0.size = 0
            · have hz2 : ((s0.size : Int) == 0) = true := by simp [hz]
              go_wp2
              all_goals go_ret2
              all_goals exact HP.out _ HB1.out
            · have hz2 : ((s0.size : Int) == 0) = false := by simp [hz]
              by_cases he : s0.size = wd
              · have hz3 : 64 < s0.size := by omega
                clear hl
                go_wp2
                all_goals go_ret2
                all_goals exact HP.out _ HB1.out
              · have hz3 : ((s0.size : Int) == (wd : Int)) = false := by simp; omega
                have hz4 : (s0.size == wd) = false := by simp; omega
                clear hl
                go_wp2
                all_goals first
                  | (go_ret2; exact HP.out _ HB1.out)
                  | (exfalso; omega)
                  | (exfalso; simp_all; done)
      · obtain rfl : j = n := by omega
        have h2 := Lib.hid (show Rn2 ps wd w 0 wr from by
          refine ⟨.slice none 0 0, fun _ => .slice none 0 0, RefRaw.at (ps := []) ?_, hB, List.nodup_nil⟩
          have e : (if j = 0 then 0 else wd) = wd := by
            split
            · rename_i h0
              rw [← HW.out, List.length_eq_zero_iff.1 (by omega : ps.length = 0)]; rfl
            · rfl
          rw [e] at hR; exact hR)
        have OK := Lib.hid hO
        have hsz := hB.size
        clear hR hB hO hSr
        go_wp2
        go_loopw [7] (fun i wr => ∃ q : Nat, q ≤ j ∧ i = .int .i64 (q : Int) ∧ Rn2 ps wd w q wr) (fun i _ => j - (intOf i).toNat)
        case atStart => exact ⟨0, by omega, rfl, h2.out⟩
        case round =>
          clear h2
          obtain ⟨q, hq, rfl, lv, F, hA, hB, hN⟩ := hrel
          have hSr := hS.out.below (hB.mono (Nat.le_refl _))
          by_cases hlt : q < j
          · obtain ⟨b, off, rfl, hb, hc⟩ := hSr (by omega)
            have cj := hc q (by omega)
            obtain ⟨s0, hs0⟩ : ∃ s0, ps.getD q .empty = s0 := ⟨_, rfl⟩
            rw [hs0] at cj
            have hlk := OK.out q hlt
            rw [hs0] at hlk
            obtain ⟨l1, l2, l3⟩ := hlk
            rw [HW.out] at l1 l2 l3
            obtain ⟨c, w2, hcv, hsrc, hbw, hcap⟩ := conv_bytes2 wr s0
            have hA2 := hA.below hbw
            have hB2 := hB.trans (hbw.mono hB.size)
            have hat := refAt_any (pc := c) (ao := some ⟨wr.heap.size, 0, none⟩) hA2 (show (bts s0).length = s0.size from bts_len s0) hcap (bts_lt s0) (by simp; omega) l3 (fun _ => ⟨_, _, rfl, hsrc.cells⟩)
            have HAT := Lib.hid hat
            have HA2 := Lib.hid hA2
            have HB2 := Lib.hid hB2
            have HS0 := Lib.hid hs0
            have HN := Lib.hid hN
            have L1 := Lib.hid l1
            have l2' := Lib.hid l2
            clear hc hSr hA hB hN hsrc hat hA2 hB2 hbw hs0 l1 l2 l3
            go_upto_if 64 with (go_at_call 61; refine HAT.out.mono ?_; rintro e w3 ⟨r, hr, rfl, hb3⟩; have HR := Lib.hid hr; have HB3 := Lib.hid hb3; clear hr hb3)
            have hB4 := HB2.out.trans (HB3.out.mono HB2.out.size)
            rcases HR.out with ⟨k, rfl, _, _, k3, k4⟩ | ⟨rfl, k1⟩
            · have hpost := Lib.hid (show RefNewPost ps w (.returned (.tuple #[.pointer none, .int .i64 51])) w3 from ⟨hB4, .inl (by
                rw [newE_twice (by omega) (fun i hi => OK.out i (by omega)) (twice_not (k := k) (j := q) (by simp at k3; omega) (by omega) (by
                  have hkq : k < q := by simp at k3; omega
                  rw [getD_take hkq] at k4
                  rw [k4, HS0.out, List.take_of_length_le (by rw [bts_len, L1.out]; exact Nat.le_refl _)]))]
                exact ⟨by decide, rfl⟩)⟩)
              clear k3 k4 hB4 HR
              go_wp2
              go_ret2
              exact hpost.out
            · clear HR
              have hA4 := HA2.out.below HB3.out
              have hnew : bts s0 ∉ (ps.take q).map bts := fun hm => by
                obtain ⟨x, hx, hxe⟩ := List.mem_map.1 hm
                obtain ⟨i, hi, rfl⟩ := List.mem_iff_getElem.1 hx
                refine k1 (by rw [← L1.out, ← bts_len]; have := l2'.out; rw [bts_len, L1.out]; exact this) (by rw [bts_len, L1.out]; exact Nat.le_refl _) i hi ?_
                rw [List.take_of_length_le (l := bts s0) (by rw [bts_len, L1.out]; exact Nat.le_refl _), ← hxe, List.getD, List.getElem?_eq_getElem hi, Option.getD_some]
              obtain ⟨lo, lc, hlv⟩ := own_form hA4.strs
              have hq2 : (ps.take q).length = q := by simp; omega
              rw [hq2] at hlv
              have k0 : w3.cell? ⟨w.heap.size, 0, none⟩ = some lv := by obtain ⟨cs, c0, c1, c2, c3⟩ := hA4.head; exact c0.cell c1
              rw [hlv] at k0
              have hrb : w.heap.size < w3.heap.size := by obtain ⟨cs, c0, _⟩ := hA4.head; exact c0.lt
              have hbs : w.heap.size ≤ w3.heap.size := by omega
              have hmx : q + 1 ≤ maxLen := by unfold maxLen; omega
              have hby : (q + 1) * 16 ≤ 140737488355328 := by omega
              have hstr := hA4.strs
              rw [hlv, hq2] at hstr
              have RS := Lib.hid hstr
              have HLV := Lib.hid hlv
              have HA4 := Lib.hid hA4
              have HB4 := Lib.hid hB4
              have HNEW := Lib.hid hnew
              obtain ⟨i9, a1, a2, a3, a4⟩ := info_parts info9
              obtain ⟨cs, hcs0, hcs1, _⟩ := HA4.out.head
              have HC := Lib.hid hcs0
              have hcs2 : cs[0]? = some (.slice lo q lc) := by rw [hcs1, HLV.out]
              have hro : some w.heap.size ≠ (Value.slice lo q lc).ownBlock := fun e => row_ne RS.out HC.out (by decide) e.symm rfl
              clear hstr hlv hA4 hB4 hnew k1 hcs0 hcs1
              go_upto_region 19 with fail
              go_cut [] (fun wx => ∃ lv', RefRaw wx w.heap.size w.heap.size wd (ps.take q ++ [s0]) (idxs (ps.take q)) lv' F ∧ Below w.heap.size w wx)
              case first =>
                go_wp2_with (first | (at_builtin; refine wpList_append_lies _ (by rfl) (.tmp 69) (.tmp 71) 26 (by rfl) w.heap.size 9 i9 (.string .empty) 1 16 Try.underlying26 a1 a2 a3 a4 (by rfl) (by decide) (.slice lo q lc) q ((ps.take q).map Value.string) (by rfl) (RS.out.alloc _) ⟨w3.heap.size, 0, none⟩ 1 1 [.string s0] (by rfl) (by rfl) (fun _ _ hj => alloc_cells _ _ hj) (by intro u hu; simp at hu; subst hu; rfl) (by decide) hmx hby (le_alloc hbs) (w3.heap.size + 1) (size_alloc1 _ _) ?_; intro g cap2 w4 hown hgrow hat hlt3; have hh := grown_blk HC.out.alloc hgrow hro; have z1 := hh.cell hcs2; have z2 : w4.frozen? ⟨w.heap.size, 0, none⟩ = false := hh.free; have HO := Lib.hid hown; have HG := Lib.hid hgrow; have HAt := Lib.hid hat; clear hh hown hgrow hat))
                go_meet
                have hraw := (HA4.out.raw.below ((Below.refl _ w3).alloc (Nat.le_refl _) (.cells #[.string s0] 9))).putS (v' := .slice (some ⟨g, 0, none⟩) (q + 1) cap2) (s := s0) (by rw [hq2]; exact HO.out) (by rw [HLV.out]; exact HG.out)
                exact ⟨_, hraw, ((HB4.out.alloc hbs _).grown HG.out (le_alloc hbs) (fun k hk => (RS.out.lt k hk).1)).setCell (Nat.le_refl _) _⟩
              case rest =>
                obtain ⟨lv', hr5, hb5⟩ := hcut
                have hx0 : 0 < s0.size := by have := L1.out; have := l2'.out; omega
                have hxs := head_bts hx0
                obtain ⟨x, hx⟩ : ∃ x, (s0[0]).toNat = x := ⟨_, rfl⟩
                rw [hx] at hxs
                have hx256 : x < 256 := by rw [← hx]; exact (s0[0]).toNat_lt
                obtain ⟨fo, fc, hf⟩ := own_form (hr5.idx x hx256)
                obtain ⟨N, hN⟩ : ∃ N, (idxs (ps.take q) x).length = N := ⟨_, rfl⟩
                have hNle : N ≤ 4096 := by rw [← hN]; unfold idxs; exact Nat.le_trans (List.length_filter_le _ _) (by simp; omega)
                obtain ⟨cs5, hc5, hc6, hc7, hc8⟩ := hr5.head
                have k1 : wc.cell? ⟨w.heap.size, 1 + x, none⟩ = some (F x) := hc5.cell (hc8 x hx256)
                have hrow := hr5.idx x hx256
                rw [hN] at hf hrow
                rw [hf] at k1 hrow
                have hcx := hc8 x hx256
                rw [hf] at hcx
                have hrb5 : w.heap.size < wc.heap.size := hc5.lt
                have hbs5 : w.heap.size ≤ wc.heap.size := by omega
                have hmx5 : N + 1 ≤ maxLen := by unfold maxLen; omega
                have hby5 : (N + 1) * 8 ≤ 140737488355328 := by omega
                have hro5 : some w.heap.size ≠ (Value.slice fo N fc).ownBlock := fun e => row_ne hrow hc5 (by decide) e.symm rfl
                have HR5 := Lib.hid hr5
                have HB5 := Lib.hid hb5
                have HC5 := Lib.hid hc5
                have HCX := Lib.hid hcx
                have HRW := Lib.hid hrow
                have HF5 := Lib.hid hf
                have HN5 := Lib.hid hN
                have HXS := Lib.hid hxs
                obtain ⟨i3, b1, b2, b3, b4⟩ := info_parts info3
                clear hr5 hb5 hc5 hc6 hc7 hc8 hcx hrow hf hN hxs a1 a2 a3 a4 hcs2 hro k0 hq2
                have hxi : (x : Int) < 256 := by omega
                go_upto_region 20 with fail
                go_region_law (first | (refine step_append_lies _ (by rfl) (.tmp 84) (.tmp 86) 88 (by rfl) w.heap.size 3 i3 (.int .i64 0) 1 8 Try.underlying88 b1 b2 b3 b4 (by rfl) (by decide) (.slice fo N fc) N ((idxs (ps.take q) x).map fun k : Nat => Value.int .i64 (k : Int)) (by rfl) (HRW.out.alloc _) ⟨wc.heap.size, 0, none⟩ 1 1 [.int .i64 (q : Int)] (by rfl) (by rfl) (fun _ _ hj => alloc_cells _ _ hj) (by intro u hu; simp at hu; subst hu; rfl) (by decide) hmx5 hby5 (le_alloc hbs5) (wc.heap.size + 1) (size_alloc1 _ _) ?_; intro g cap2 w4 hown hgrow hat hlt3; have hh := grown_blk HC5.out.alloc.drew hgrow hro5; have z1 := hh.cell HCX.out; have z2 : w4.frozen? ⟨w.heap.size, 1 + x, none⟩ = false := hh.free; have HO := Lib.hid hown; have HG := Lib.hid hgrow; have HAt := Lib.hid hat; clear hh hown hgrow hat))
                all_goals go_wp2_with fail
                all_goals (go_roundw; case measure => (simp [intOf]; omega))
                all_goals refine ⟨q + 1, by omega, by go_num, ?_⟩
                all_goals exact rn2_post (by omega) HS0.out HR5.out HB5.out hx256 HXS.out HF5.out HN5.out HN.out HNEW.out HO.out HG.out HAt.out
          · obtain rfl : q = j := by omega
            have hpost := Lib.hid (show RefNewPost ps w (.returned (.tuple #[.pointer (some ⟨w.heap.size, 0, none⟩), .int .i64 0])) wr from ⟨hB, .inr ⟨newE_ok (by omega) (fun i hi => OK.out i (by omega)) (by rw [List.take_of_length_le (by omega)] at hN; exact hN), w.heap.size, lv, F, rfl, by rw [List.take_of_length_le (by omega)] at hA; rw [HW.out]; exact hA⟩⟩)
            clear hA hB hN hSr
            go_wp2
            go_ret2
            exact hpost.out
end Go.Proofs.Ythkaicbkcaiffaa
