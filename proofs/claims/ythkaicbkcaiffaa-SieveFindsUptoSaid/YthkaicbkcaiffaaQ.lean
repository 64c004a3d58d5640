/-
  The reference's sieve in memory, and its at. Conditions: none.
-/
import Derived.Test.YthkaicbkcaiffaaS
import Derived.Laws.BytesArg
namespace Go.Proofs.Ythkaicbkcaiffaa
open Go.RowKit

def idxs (ps : List ByteArray) (b : Nat) : List Nat := (List.range ps.length).filter fun i => (bts (ps.getD i .empty)).headD 0 == b
theorem mem_idxs {ps : List ByteArray} {b k : Nat} : k ∈ idxs ps b ↔ k < ps.length ∧ (bts (ps.getD k .empty)).headD 0 = b := by simp [idxs]
structure RefAt (w : World) (base rb wd : Nat) (ps : List ByteArray) (lv : Value) (F : Nat → Value) : Prop where
  head : ∃ cs, Blk w rb 91 cs ∧ cs[0]? = some lv ∧ cs[257]? = some (.int .i64 (wd : Int)) ∧ ∀ b, b < 256 → cs[1 + b]? = some (F b)
  strs : w.ownsRow base 9 1 lv ps.length (ps.map Value.string)
  idx : ∀ b, b < 256 → w.ownsRow base 3 1 (F b) (idxs ps b).length ((idxs ps b).map fun k : Nat => .int .i64 (k : Int))
  apart : ∀ b b', b < 256 → b' < 256 → b ≠ b' → ∀ x, (F b).ownBlock = some x → (F b').ownBlock ≠ some x
  b0 : base ≤ rb
/-- The string of these bytes. -/
def strN (l : List Nat) : ByteArray := strOfNums (l.map fun x : Nat => (x : Int))
theorem bts_strN {l : List Nat} (h : ∀ b ∈ l, b < 256) : bts (strN l) = l := by
  unfold bts strN
  rw [strOfNums_data, List.map_map, List.map_map]
  conv => rhs; rw [← List.map_id l]
  refine List.map_congr_left fun x hx => ?_
  have := h x hx
  simp; omega
theorem bts_inj {s t : ByteArray} (h : bts s = bts t) : s = t := by
  unfold bts at h
  apply ByteArray.ext
  apply Array.toList_inj.1
  exact List.map_inj_right (fun a b e => UInt8.toNat_inj.1 e) |>.1 h
theorem strN_eq {l : List Nat} (h : ∀ b ∈ l, b < 256) (s : ByteArray) : strN l = s ↔ l = bts s := by
  constructor
  · rintro rfl; exact (bts_strN h).symm
  · intro e; exact bts_inj (by rw [bts_strN h, e])
/-- What at says. -/
def AtPost (ps : List ByteArray) (wd : Nat) (l : List Nat) (r : Int) : Prop :=
  (∃ k : Nat, r = k ∧ 1 ≤ wd ∧ wd ≤ l.length ∧ k < ps.length ∧ bts (ps.getD k .empty) = l.take wd) ∨ (r = -1 ∧ (1 ≤ wd → wd ≤ l.length → ∀ k, k < ps.length → bts (ps.getD k .empty) ≠ l.take wd))

theorem own_some {w : World} {base n size c : Nat} {e : TypeId} {ao : Option Addr} {xs : List Value} (h : w.ownsRow base e size (.slice ao n c) n xs) (hn : 0 < n) : ∃ g, ao = some ⟨g, 0, none⟩ := by
  rcases h.2 with ⟨hv, hz⟩ | ⟨g, cap, cur, hv, _⟩
  · obtain ⟨_, hn0, _⟩ : ao = none ∧ n = 0 ∧ c = 0 := by simpa using hv
    omega
  · obtain ⟨ha, _⟩ : ao = some ⟨g, 0, none⟩ ∧ c = cap := by simpa using hv
    exact ⟨g, ha⟩
theorem bytes_ne {z s : ByteArray} (h : ¬ z = s) : (z.toList == s.toList) = false := by
  rw [Go.ByteArray.toList_eq, Go.ByteArray.toList_eq]
  exact beq_eq_false_iff_ne.2 fun e => h (ByteArray.ext (Array.toList_inj.1 e))
theorem bytes_eq (s : ByteArray) : (s.toList == s.toList) = true := beq_self_eq_true _
theorem Below.drewN_self (w : World) (q : Nat) : Below w.heap.size w (w.drewN q) := ⟨rfl, rfl, rfl, Nat.le_refl _, fun _ _ => rfl⟩
set_option maxRecDepth 100000 in
set_option maxHeartbeats 1000000 in
theorem refAt_any {w : World} {base rb wd n pc : Nat} {ps : List ByteArray} {lv : Value} {F : Nat → Value} {ao : Option Addr} {l : List Nat} (h : RefAt w base rb wd ps lv F) (hn : l.length = n) (hpc : n ≤ pc) (hb : ∀ b ∈ l, b < 256) (hps : ps.length ≤ 4096) (hwd : wd ≤ 64)
    (hl : 0 < n → ∃ b off, ao = some ⟨b, off, none⟩ ∧ ByteCells w b off l) :
    Calls Try.prog 61 #[.pointer (some ⟨rb, 0, none⟩), .slice ao n pc] w fun e w' => ∃ r, AtPost ps wd l r ∧ e = .returned (.int .i64 r) ∧ Below w.heap.size w w' := by
  obtain ⟨cs, c0, c1, c2, c3⟩ := h.head
  have k2 : w.cell? ⟨rb, 257, none⟩ = some (.int .i64 (wd : Int)) := c0.cell c2
  by_cases hs : 1 ≤ wd ∧ wd ≤ n
  · obtain ⟨b, off, rfl, hd⟩ := hl (by omega)
    have HL := Lib.hid hd
    obtain ⟨x, hx⟩ : ∃ x, l.getD 0 0 = x := ⟨_, rfl⟩
    have hx256 : x < 256 := by
      rw [← hx]; simp only [List.getD, List.getElem?_eq_getElem (show 0 < l.length by omega), Option.getD_some]
      exact hb _ (List.getElem_mem _)
    have d0 := hd 0 (by omega)
    rw [hx, Nat.add_zero] at d0
    have k1 : w.cell? ⟨rb, 1 + x, none⟩ = some (F x) := c0.cell (c3 x hx256)
    have k0 : w.cell? ⟨rb, 0, none⟩ = some lv := c0.cell c1
    have HI := Lib.hid (h.idx x hx256)
    have HS := Lib.hid h.strs
    obtain ⟨fo, fc, hf⟩ := own_form HI.out
    obtain ⟨lo, lc, hlv⟩ := own_form HS.out
    obtain ⟨N, hN⟩ : ∃ N, (idxs ps x).length = N := ⟨_, rfl⟩
    rw [hN] at hf
    have HN := Lib.hid hN
    have HB := Lib.hid hb
    have hNle : N ≤ 4096 := by rw [← hN]; unfold idxs; exact Nat.le_trans (List.length_filter_le _ _) (by simp; exact hps)
    have HF := Lib.hid hf
    have HLV := Lib.hid hlv
    rw [hf] at k1
    rw [hlv] at k0
    have HX := Lib.hid hx
    have hz : ((wd : Int) == 0) = false := by simp; omega
    have hz2 : decide (n < wd) = false := by simp; omega
    clear h hl hd hx hN hf hlv hb c0 c1 c2 c3 cs
    go_enter Try.func61, Try.ntmps61
    go_upto_region 3 with fail
    go_quiet (fail)
    go_wp2
    go_loopw [6] (fun i wr => ∃ (j q : Nat), j ≤ N ∧ i = .int .i64 (j : Int) ∧ wr = w.drewN q ∧ ∀ i, i < j → bts (ps.getD ((idxs ps x).getD i 0) .empty) ≠ l.take wd) (fun i _ => N - (intOf i).toNat)
    case atStart => exact ⟨0, nq, by omega, rfl, rfl, fun i hi => absurd hi (Nat.not_lt_zero _)⟩
    case round =>
      obtain ⟨j, q, hj, rfl, rfl, hno⟩ := hrel
      by_cases hlt : j < N
      · obtain ⟨k, hk⟩ : ∃ k, (idxs ps x).getD j 0 = k := ⟨_, rfl⟩
        have hjl : j < (idxs ps x).length := by rw [HN.out]; exact hlt
        have hkm : k ∈ idxs ps x := by rw [← hk]; simp only [List.getD, List.getElem?_eq_getElem hjl, Option.getD_some]; exact List.getElem_mem _
        obtain ⟨hk1, hk2⟩ := mem_idxs.1 hkm
        have HI2 := HI.out
        rw [HF.out, HN.out] at HI2
        obtain ⟨fb, rfl⟩ := own_some HI2 (by omega)
        have HS2 := HS.out
        rw [HLV.out] at HS2
        obtain ⟨lb, rfl⟩ := own_some HS2 (by omega)
        have e1 := (row_there HI2 (j := j) (by simp; omega)).1
        rw [show ((idxs ps x).map fun k : Nat => Value.int .i64 (k : Int)).getD j undef = .int .i64 (k : Int) by rw [← hk]; simp [List.getD, hjl]] at e1
        have e2 := (row_there HS2 (j := k) (by simp; omega)).1
        obtain ⟨s, hs⟩ : ∃ s, ps.getD k .empty = s := ⟨_, rfl⟩
        rw [show (ps.map Value.string).getD k undef = .string s by rw [← hs]; simp [List.getD, hk1]] at e2
        have hcv : ∀ c q, (convert 27 9 (.slice (some ⟨b, off, none⟩) wd c)).run Try.prog (w.drewN q) = .ok (.string (strN (l.take wd))) (w.drewN q) := fun c q =>
          run_convert_bytes_arg (P := Try.prog) (w.drewN q) 27 5 Try.underlying27 Try.underlying5 b off wd c ((l.take wd).map fun x : Nat => (x : Int)) (by simp; omega) (fun i hi => by
            have := HL.out.take (n := wd) i (by simp; omega)
            rw [show (w.drewN q).cell? ⟨b, off + i, none⟩ = w.cell? ⟨b, off + i, none⟩ from rfl, this]
            simp [List.getD, show i < l.length by omega, hi]) 9 Try.underlying9
        have hkn : (k : Int) < 4096 := by omega
        have NO := Lib.hid hno
        clear hno HI2 HS2 hkm hk2
        have hbt : ∀ b ∈ l.take wd, b < 256 := fun b hm => HB.out b (List.mem_of_mem_take hm)
        by_cases heq : strN (l.take wd) = s
        · have HP := Lib.hid (show AtPost ps wd l (k : Int) from .inl ⟨k, rfl, by omega, by omega, hk1, by rw [hs, ← (strN_eq hbt s).1 heq]⟩)
          rw [heq] at hcv
          clear heq hs hbt hk
          go_upto_region 7 with fail
          go_quiet (fail)
          go_wp2
          all_goals go_ret
          all_goals exact ⟨_, HP.out, rfl, Below.drewN_self _ _⟩
        · have hne : bts s ≠ l.take wd := fun e => heq ((strN_eq hbt s).2 e.symm)
          have HR := Lib.hid (show ∀ i, i < j + 1 → bts (ps.getD ((idxs ps x).getD i 0) .empty) ≠ l.take wd from fun i hi => by
            by_cases e : i = j
            · subst e; rw [hk, hs]; exact hne
            · exact NO.out i (by omega))
          obtain ⟨z, hzz⟩ : ∃ z, strN (l.take wd) = z := ⟨_, rfl⟩
          rw [hzz] at hcv heq
          have heq2 := bytes_ne heq
          clear hs hbt hk hzz hne
          go_upto_region 7 with fail
          go_quiet (fail)
          go_wp2
          go_roundw
          case rel => exact ⟨j + 1, _, by omega, by go_num, rfl, HR.out⟩
          case measure => simp [intOf]; omega
      · obtain rfl : j = N := by omega
        go_wp2
        go_ret
        refine ⟨-1, .inr ⟨rfl, fun _ _ k hk e => ?_⟩, rfl, Below.drewN_self _ _⟩
        have hkm : k ∈ idxs ps x := mem_idxs.2 ⟨hk, by rw [e, ← HX.out]; cases l with | nil => simp | cons y l => cases wd with | zero => omega | succ wd => simp⟩
        obtain ⟨i, hi, hik⟩ := List.mem_iff_getElem.1 hkm
        refine hno i (by rw [← HN.out]; exact hi) ?_
        rw [show (idxs ps x).getD i 0 = k by simp [List.getD, hi, hik]]; exact e
  · have HP := Lib.hid (show AtPost ps wd l (-1) from .inr ⟨rfl, fun a b => absurd ⟨a, by omega⟩ hs⟩)
    go_enter Try.func61, Try.ntmps61
    by_cases h0 : wd = 0
    · subst h0
      go_wp2
      go_ret
      exact ⟨_, HP.out, rfl, Below.refl _ _⟩
    · have hz : ((wd : Int) == 0) = false := by simp; omega
      have hz2 : decide (n < wd) = true := by simp; omega
      go_wp2
      go_ret
      exact ⟨_, HP.out, rfl, Below.refl _ _⟩
end Go.Proofs.Ythkaicbkcaiffaa
