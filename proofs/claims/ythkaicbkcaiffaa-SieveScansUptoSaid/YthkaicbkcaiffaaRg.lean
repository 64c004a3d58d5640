/-
  SieveScans: the law's walk. Conditions: the sizes are below 2^20.
-/
import Derived.Test.YthkaicbkcaiffaaRf
namespace Go.Proofs.Ythkaicbkcaiffaa
open Go.RowKit

theorem ScA.monoU {w : World} {B U U' : Nat} {ps : List ByteArray} {et : TypeId} {ex : Array Value} {cv : Value} {D : List Nat} (h : ScA w B U ps et ex cv D) (hU : U ≤ U') : ScA w B U' ps et ex cv D := by
  rcases h with h | ⟨h0, cb, node, base, sb, tb, mb, nb, cap, T, h1, h2, h3, h4, h5, h6, h7, h8⟩
  · exact .inl h
  · exact .inr ⟨h0, cb, node, base, sb, tb, mb, nb, cap, T, h1, h2, by omega, h4, by omega, h6, h7, h8⟩
theorem ScA.monoB {w : World} {B B' U : Nat} {ps : List ByteArray} {et : TypeId} {ex : Array Value} {cv : Value} {D : List Nat} (h : ScA w B U ps et ex cv D) (hB : B' ≤ B) : ScA w B' U ps et ex cv D := by
  rcases h with h | ⟨h0, cb, node, base, sb, tb, mb, nb, cap, T, h1, h2, h3, h4, h5, h6, h7, h8⟩
  · exact .inl h
  · exact .inr ⟨h0, cb, node, base, sb, tb, mb, nb, cap, T, h1, by omega, h3, h4, h5, h6, h7, h8⟩
theorem ScB.monoB {w : World} {B B' U LB : Nat} {ps : List ByteArray} {et : TypeId} {ex : Array Value} {cv : Value} {D : List Nat} (h : ScB w B U LB ps et ex cv D) (hB : B' ≤ B) : ScB w B' U LB ps et ex cv D := by
  rcases h with h | ⟨h0, db, base, rb, lv, F, h1, h2, h3, h4, h5, h6⟩
  · exact .inl h
  · exact .inr ⟨h0, db, base, rb, lv, F, h1, by omega, h3, h4, h5, h6⟩
theorem newScA {w : World} {ps : List ByteArray} {av bv : Value} (h : Pair w ps av bv) : Calls Try.prog 26 #[av] w fun e w' => ∃ po, e = .returned (.pointer po) ∧ po.isNone = decide (newE ps ≠ 0) ∧ Below w.heap.size w w' ∧ ScA w' w.heap.size w'.heap.size ps 94 #[] (.pointer po) [] := by
  rcases h with ⟨h0, rfl, _⟩ | ⟨h0, b1, b2, sb, tb, mb, nb, cap, T, rb, lv, F, rfl, _, h3, h4, _⟩
  · exact (scanner_nil w).mono fun e w' ⟨a, b⟩ => ⟨none, a, (decide_eq_true h0).symm, b ▸ Below.refl _ _, .inl ⟨h0, rfl⟩⟩
  · refine (scanner_at w sb).mono fun e w' ⟨a, b⟩ => ⟨_, a, (decide_eq_false (fun h => h h0)).symm, b ▸ (Below.refl _ w).alloc (Nat.le_refl _) _, ?_⟩
    subst b
    have hbl : Below w.heap.size w (w.alloc (.cells (scCells sb 0 0) 94)) := (Below.refl _ w).alloc (Nat.le_refl _) _
    have h3' := h3.below hbl
    exact .inr ⟨h0, w.heap.size, 0, b1, sb, tb, mb, nb, cap, T, rfl, Nat.le_refl _, by simp, h3', h3'.ltU, h4, by rw [scX_nil]; exact Blk.new, h4.nil⟩
theorem newScB {w : World} {ps : List ByteArray} {av bv : Value} (h : Pair w ps av bv) : Calls Try.prog 27 #[bv] w fun e w' => ∃ po, e = .returned (.pointer po) ∧ po.isNone = decide (newE ps ≠ 0) ∧ Below w.heap.size w w' ∧ ScB w' w.heap.size w'.heap.size 0 ps 96 #[] (.pointer po) [] := by
  rcases h with ⟨h0, _, rfl⟩ | ⟨h0, b1, b2, sb, tb, mb, nb, cap, T, rb, lv, F, _, rfl, _, _, h5⟩
  · exact (refScanner_nil w).mono fun e w' ⟨a, b⟩ => ⟨none, a, (decide_eq_true h0).symm, b ▸ Below.refl _ _, .inl ⟨h0, rfl⟩⟩
  · refine (refScanner_at w rb).mono fun e w' ⟨a, b⟩ => ⟨_, a, (decide_eq_false (fun h => h h0)).symm, b ▸ (Below.refl _ w).alloc (Nat.le_refl _) _, ?_⟩
    subst b
    have hbl : Below w.heap.size w (w.alloc (.cells #[.pointer (some ⟨rb, 0, none⟩), .slice none 0 0, .int .i64 0] 96)) := (Below.refl _ w).alloc (Nat.le_refl _) _
    have h5' := h5.below hbl
    exact .inr ⟨h0, w.heap.size, b2, rb, lv, F, rfl, Nat.le_refl _, by simp, h5', h5'.ltU, refSc_new w rb _ 0⟩

theorem own_keepA {w w' : World} {B U : Nat} {ps : List ByteArray} {et e : TypeId} {ex : Array Value} {cv : Value} {D : List Nat} {b size n : Nat} {v : Value} {xs : List Value} (h : ScA w B U ps et ex cv D) (hk : Keep w.heap.size (Pt cv) w w') (hr : w.ownsRow b e size v n xs) (he : e ≠ et) : w'.ownsRow b e size v n xs := by
  rcases h with ⟨_, rfl⟩ | ⟨h0, cb, node, base, sb, tb, mb, nb, cap, T, rfl, h2, h3, h4, h5, h6, h7, h8⟩
  · exact own_same hr fun x q => hk.of_ptn.block x (hr.lt x q).2
  · exact own_same hr fun x q => hk.of_pt.block x (hr.lt x q).2 (row_nb hr h7 he q)
theorem own_keepB {w w' : World} {B U LB : Nat} {ps : List ByteArray} {et e : TypeId} {ex : Array Value} {cv : Value} {D : List Nat} {b size n : Nat} {v : Value} {xs : List Value} (h : ScB w B U LB ps et ex cv D) (hk : Keep w.heap.size (Pt cv) w w') (hr : w.ownsRow b e size v n xs) (he : e ≠ et) : w'.ownsRow b e size v n xs := by
  rcases h with ⟨_, rfl⟩ | ⟨h0, db, base, rb, lv, F, rfl, h2, h3, h4, h5, lo, lc, h6, _⟩
  · exact own_same hr fun x q => hk.of_ptn.block x (hr.lt x q).2
  · exact own_same hr fun x q => hk.of_pt.block x (hr.lt x q).2 (row_nb hr h6 he q)
theorem below_keepA {w0 w w' : World} {U : Nat} {ps : List ByteArray} {et : TypeId} {ex : Array Value} {cv : Value} {D : List Nat} (h : ScA w w0.heap.size U ps et ex cv D) (hk : Keep w.heap.size (Pt cv) w w') (hb : Below w0.heap.size w0 w) : Below w0.heap.size w0 w' := by
  rcases h with ⟨_, rfl⟩ | ⟨h0, cb, node, base, sb, tb, mb, nb, cap, T, rfl, h2, h3, _⟩
  · exact hb.trans (hk.of_ptn.mono hb.size)
  · exact hb.trans ⟨hk.os, hk.tape, hk.output, hk.size, fun k q => hk.of_pt.block k (Nat.lt_of_lt_of_le q hb.size) (by omega)⟩
theorem below_keepB {w0 w w' : World} {U LB : Nat} {ps : List ByteArray} {et : TypeId} {ex : Array Value} {cv : Value} {D : List Nat} (h : ScB w w0.heap.size U LB ps et ex cv D) (hk : Keep w.heap.size (Pt cv) w w') (hb : Below w0.heap.size w0 w) : Below w0.heap.size w0 w' := by
  rcases h with ⟨_, rfl⟩ | ⟨h0, db, base, rb, lv, F, rfl, h2, h3, _⟩
  · exact hb.trans (hk.of_ptn.mono hb.size)
  · exact hb.trans ⟨hk.os, hk.tape, hk.output, hk.size, fun k q => hk.of_pt.block k (Nat.lt_of_lt_of_le q hb.size) (by omega)⟩
theorem Below.drewN_self' (B : Nat) (w : World) (q : Nat) : Below B w (w.drewN q) := ⟨rfl, rfl, rfl, Nat.le_refl _, fun _ _ => rfl⟩
theorem sce96 : ScE 96 := by unfold ScE; decide
theorem sce94R : RfE 94 := by unfold RfE; decide
/-- The pieces at the head of a round: j are fed. -/
def ScRel (w : World) (B U : Nat) (ps : List ByteArray) (cv dv pv : Value) (pcs : List (List Nat)) (xs : List Value) (j : Nat) (wr : World) : Prop :=
  Below w.heap.size w wr ∧ U ≤ wr.heap.size ∧ wr.ownsRow B 27 1 pv pcs.length xs ∧ ScA wr w.heap.size U ps 94 #[] cv (pcs.take j).flatten ∧ ScB wr w.heap.size U 0 ps 96 #[] dv (pcs.take j).flatten
theorem take_flat {pcs : List (List Nat)} {j : Nat} (hj : j < pcs.length) : (pcs.take (j + 1)).flatten = (pcs.take j).flatten ++ pcs.getD j [] := by
  rw [List.take_add_one]
  have : pcs[j]? = some (pcs.getD j []) := by simp [List.getD, hj]
  rw [this]; simp
theorem flat_facts {pcs : List (List Nat)} {j : Nat} (hj : j < pcs.length) : (pcs.take j).flatten.length + (pcs.getD j []).length ≤ pcs.flatten.length ∧ (∀ b ∈ pcs.getD j [], b ∈ pcs.flatten) ∧ ∀ b ∈ (pcs.take j).flatten, b ∈ pcs.flatten := by
  have e : pcs.flatten = (pcs.take (j + 1)).flatten ++ (pcs.drop (j + 1)).flatten := by rw [← List.flatten_append, List.take_append_drop]
  rw [take_flat hj] at e
  refine ⟨by rw [e]; simp only [List.length_append]; omega, fun b hb => ?_, fun b hb => ?_⟩
  · rw [e]; exact List.mem_append_left _ (List.mem_append_right _ hb)
  · rw [e]; exact List.mem_append_left _ (List.mem_append_left _ hb)

/-- Writes into one block alone, whatever is written. -/
def Wr (w : World) (v : Value) (b : Nat) (e : TypeId) (size n : Nat) (wr : World) : Prop := Keep w.heap.size (fun x => v.ownBlock = some x) w wr ∧ ∃ ys, wr.ownsRow b e size v n ys
theorem Wr.set {w wr : World} {g b size n cap k : Nat} {e : TypeId} (h : Wr w (.slice (some ⟨g, 0, none⟩) n cap) b e size n wr) (u : Value) (hk : k < n * size) : Wr w (.slice (some ⟨g, 0, none⟩) n cap) b e size n (wr.setCell ⟨g, k, none⟩ u) := by
  obtain ⟨h1, ys, h2⟩ := h
  exact ⟨Keep.setCell (p := ⟨g, k, none⟩) (S := fun x => (Value.slice (some ⟨g, 0, none⟩) n cap).ownBlock = some x) h1 (.inr rfl) _, _, own_set h2 u hk⟩
theorem Wr.cell {w wr : World} {g b size n cap k : Nat} {e : TypeId} (h : Wr w (.slice (some ⟨g, 0, none⟩) n cap) b e size n wr) (hk : k < n * size) : ∃ u, wr.cell? ⟨g, k, none⟩ = some u ∧ wr.frozen? ⟨g, k, none⟩ = false := by
  obtain ⟨h1, ys, h2⟩ := h
  have := row_there h2 (j := k) (by have := h2.1; omega)
  exact ⟨_, this.1, this.2⟩

theorem scRel_step {w wr w5 w6 w8 w9 w10 : World} {B U j N m1 g cap hc b5 : Nat} {ps : List ByteArray} {cv dv pv : Value} {pcs : List (List Nat)} {xs : List Value} {ho : Option Addr} {hx : List Value}
    (hj : j < pcs.length) (hU : U ≤ wr.heap.size) (hw : w.heap.size ≤ U) (h56 : wr.heap.size ≤ w5.heap.size) (h67 : w5.heap.size ≤ w6.heap.size) (h68 : w6.heap.size ≤ w8.heap.size)
    (hB : Below w.heap.size w w8) (hrow : w8.ownsRow B 27 1 pv pcs.length xs) (hpv : ∀ b, pv.ownBlock = some b → b < wr.heap.size) (hA : ScA w8 w.heap.size U ps 94 #[] cv ((pcs.take j).flatten ++ pcs.getD j [])) (hBb : ScB w8 w.heap.size U w6.heap.size ps 96 #[] dv ((pcs.take j).flatten ++ pcs.getD j []))
    (hx1 : w6.ownsRow w5.heap.size 44 2 (.slice ho N hc) N hx) (hf : wr.heap.size ≤ g ∧ g < w5.heap.size) (h9 : Wr w8 (.slice ho N hc) w5.heap.size 44 2 N w9) (h10 : Wr w9 (.slice (some ⟨g, 0, none⟩) (m1 + 2) cap) b5 5 1 (m1 + 2) w10) :
    ScRel w B U ps cv dv pv pcs xs (j + 1) w10 := by
  have hk : ∀ k, k < wr.heap.size ∨ w6.heap.size ≤ k → k < w8.heap.size → w10.heap[k]? = w8.heap[k]? := fun k hk hlt => by
    rw [h10.1.block k (Nat.lt_of_lt_of_le hlt h9.1.size) (fun e => by simp [Value.ownBlock] at e; omega), h9.1.block k hlt (fun e => by have := hx1.lt k e; omega)]
  refine ⟨hB.trans ⟨h10.1.os.trans h9.1.os, h10.1.tape.trans h9.1.tape, h10.1.output.trans h9.1.output, Nat.le_trans h9.1.size h10.1.size, fun k q => hk k (.inl (by omega)) (by have := hB.size; omega)⟩, ?_, own_same hrow fun x q => hk x (.inl (hpv x q)) (hrow.lt x q).2, ?_, ?_⟩
  · have := h9.1.size; have := h10.1.size; omega
  · rw [take_flat hj]; exact hA.frame fun k a b => hk k (.inl (by omega)) b
  · rw [take_flat hj]; exact (hBb.frame fun k a b => hk k (by omega) b).mono (Nat.zero_le _)
set_option maxRecDepth 100000 in
set_option maxHeartbeats 4000000 in
theorem scans_any {w : World} (po ao bo : Option Addr) (n c m c' q c'' : Nat) (ps : List ByteArray) (l ls : List Nat) (hn : ps.length = n) (hm : l.length = m) (hq : ls.length = q) (hp : Strs w po ps) (hl : Byt w ao l) (hF : Form ao c') (hb : ∀ b ∈ l, b < 256) (hmc : m ≤ c')
    (hls : Byt w bo ls) (hb2 : ∀ b ∈ ls, b < 256) (hmax : n ≤ 1048576) (hmm : m ≤ 1048576) (hqm : q ≤ 1048576) :
    Calls Try.prog 5 #[.slice po n c, .slice ao m c', .slice bo q c''] w fun e w' => e = .returned (.bool true) ∧ Below w.heap.size w w' := by
  have HL := Lib.hid hl
  have HM := Lib.hid hm
  have HB := Lib.hid hb
  have HLS := Lib.hid hls
  have HQ := Lib.hid hq
  have HB2 := Lib.hid hb2
  have HF := Lib.hid hF
  have C17 := Lib.hid (made_any po n c ps hn hp (by omega))
  clear hl hm hb hp hn hls hq hb2 hF
  obtain ⟨bb, hbb⟩ : ∃ bb : Bool, decide (newE ps ≠ 0) = bb := ⟨_, rfl⟩
  go_enter Try.func5, Try.ntmps5
  go_wp2_with (first
    | (go_at_call 17; refine C17.out.mono ?_; rintro e w1 ⟨hb1, av, bv, rfl, hP⟩; have HB1 := Lib.hid hb1; have HP := Lib.hid hP; clear hb1 hP)
    | (go_at_call 26; refine (newScA HP.out).mono ?_; rintro e w2 ⟨pc1, rfl, hi1, hb2, hS⟩; rw [hbb] at hi1; have HB2w := Lib.hid hb2; have HSA := Lib.hid hS; clear hb2 hS)
    | (go_at_call 27; refine (newScB (HP.out.below HB2w.out)).mono ?_; rintro e w3 ⟨pc2, rfl, hi2, hb3, hS⟩; rw [hbb] at hi2; have HB3w := Lib.hid hb3; have HSB := Lib.hid hS; clear hb3 hS)
    | (go_at_call 28; refine (cuts_any HM.out hmc HF.out HL.out HQ.out (((HLS.out.below HB1.out).below HB2w.out).below HB3w.out) HB2.out hmm hqm).mono ?_; rintro e w4 ⟨pv, rfl, hb4, xs, hx1, hx2⟩; have HB4w := Lib.hid hb4; have HX1 := Lib.hid hx1; have HX2 := Lib.hid hx2; clear hb4 hx1 hx2))
  obtain ⟨pao, pcap, rfl⟩ := own_form HX1.out
  obtain ⟨pg, rfl⟩ := own_some HX1.out (by omega)
  obtain ⟨pcs, hpcs⟩ : ∃ pcs, cutsOf l ls = pcs := ⟨_, rfl⟩
  have hplen : pcs.length = q + 1 := by rw [← hpcs, cutsOf_len, HQ.out]
  have hpfl : pcs.flatten = l := by rw [← hpcs, cutsOf_flat]
  have HPL := Lib.hid hplen
  have HPF := Lib.hid hpfl
  have HX3 := Lib.hid (hpcs ▸ HX2.out)
  have hz1 := HB1.out.size
  have hz2 := HB2w.out.size
  have hz3 := HB3w.out.size
  have hz4 := HB4w.out.size
  have hbase : Below w.heap.size w w4 := ((HB1.out.trans (HB2w.out.mono hz1)).trans (HB3w.out.mono (by omega))).trans (HB4w.out.mono (by omega))
  have hst := Lib.hid (show ScRel w w3.heap.size w3.heap.size ps (.pointer pc1) (.pointer pc2) (.slice (some ⟨pg, 0, none⟩) (q + 1) pcap) pcs xs 0 w4 from
    ⟨hbase, hz4, by rw [hplen]; exact HX1.out, ((HSA.out.monoU hz3).monoB hz1 |>.below (HB3w.out)).below (HB4w.out.mono (Nat.le_refl _)), (HSB.out.monoB (by omega)).below HB4w.out⟩)
  clear hplen hpfl hpcs hbase hi1 hi2 HX2 HX1 HSA HSB HP HLS HL
  go_loopw [13] (fun i wr => ∃ j : Nat, j ≤ q + 1 ∧ i = .int .i64 (j : Int) ∧ ScRel w w3.heap.size w3.heap.size ps (.pointer pc1) (.pointer pc2) (.slice (some ⟨pg, 0, none⟩) (q + 1) pcap) pcs xs j wr) (fun i _ => q + 1 - (intOf i).toNat)
  case atStart => exact ⟨0, by omega, rfl, hst.out⟩
  case round =>
    clear hst
    obtain ⟨j, hj, rfl, hR⟩ := hrel
    by_cases hlt : j < q + 1
    · obtain ⟨r1, r2, r3, r4, r5⟩ := hR
      have hjp : j < pcs.length := by rw [HPL.out]; exact hlt
      obtain ⟨pa, pcc, e1, e2, e3⟩ := HX3.out j hlt
      obtain ⟨f1, f2, f3⟩ := flat_facts hjp
      have R2 := Lib.hid r2
      obtain ⟨pl, hpl⟩ : ∃ pl, pcs.getD j [] = pl := ⟨_, rfl⟩
      obtain ⟨D, hD⟩ : ∃ D, (pcs.take j).flatten = D := ⟨_, rfl⟩
      obtain ⟨m1, hm1⟩ : ∃ m1, pl.length = m1 := ⟨_, rfl⟩
      have hxl : xs.length = q + 1 := by have := r3.1; rw [HPL.out] at this; omega
      rw [HPL.out] at r3
      have c0 := (row_there r3 (j := j) (by omega)).1
      rw [hpl] at e1 e2 e3 f1 f2
      rw [hD] at f1 f3 r4 r5
      rw [hm1] at e1 e3 f1
      rw [e1] at c0
      rw [HPF.out] at f1 f2 f3
      have hDm : D.length + m1 ≤ m := by have := HM.out; omega
      have R1 := Lib.hid r1
      have R3 := Lib.hid r3
      have R4 := Lib.hid r4
      have R5 := Lib.hid r5
      have HPB := Lib.hid (fun b hb => HB.out b (f2 b hb))
      have HDB := Lib.hid (fun b hb => HB.out b (f3 b hb))
      have HE2 := Lib.hid e2
      have HM1 := Lib.hid hm1
      have HJ := Lib.hid hpl
      have HD := Lib.hid hD
      obtain ⟨hs, hhs⟩ : ∃ hs, hitsS ps D pl = hs := ⟨_, rfl⟩
      have HHs := Lib.hid hhs
      obtain ⟨N, hN⟩ : ∃ N, hs.length = N := ⟨_, rfl⟩
      have hNle : N ≤ m1 := by
        rw [← hN, ← hhs]; unfold hitsS
        split
        · exact Nat.le_trans (hitsOf_len _ _ _ _ _) (by omega)
        · simp
      have HN := Lib.hid hN
      obtain ⟨at1, hat1⟩ : ∃ a, atS ps (D ++ pl) = a := ⟨_, rfl⟩
      have HAT := Lib.hid hat1
      have HXJ := Lib.hid (show xs.getD j undef = .slice pa m1 pcc from e1)
      have HDB2 := Lib.hid (show ∀ b ∈ D ++ pl, b < 256 from fun b hb => by
        rcases List.mem_append.1 hb with h | h
        · exact HDB.out b h
        · exact HPB.out b h)
      clear r1 r2 r3 r4 r5 e1 e2 f1 f2 f3 hm1 hpl hD hhs hN hat1 hxl
      go_wp2_with (first
        | (go_at_call 22; refine (roomy_any pa m1 pcc pl HM1.out (HE2.out.below R1.out) (by omega)).mono ?_; rintro e w5 ⟨g, cap, rfl, hcap, hrow5, hb5⟩; have q5 := hb5.cell (p := ⟨pg, j, none⟩) (R3.out.lt pg rfl).2; rw [c0] at q5; have HC := Lib.hid hcap; have HR5 := Lib.hid hrow5; have HB5 := Lib.hid hb5; have hcap1 : m1 ≤ cap := (by omega); clear hcap hrow5 hb5)
        | (go_at_call 29; have hA5 := R4.out.below HB5.out; have hP5 := own_same R3.out (fun x q => HB5.out.block x (R3.out.lt x q).2); refine (feedA (c := cap) hA5 sce94 HM1.out (fun _ => ⟨g, 0, rfl, SrcB.of_own HR5.out⟩) HPB.out (by omega)).mono ?_; rw [HHs.out, HN.out]; rintro e w6 ⟨hv, rfl, hr6, hS6, hk6⟩; have hP6 := own_keepA hA5 hk6 hP5 (by decide); have q6 := (row_there hP6 (j := j) (by have := hP6.1; omega)).1; rw [HXJ.out] at q6; obtain ⟨ho, hc, rfl⟩ := own_form hr6; have hB6 := below_keepA hA5 hk6 (R1.out.trans (HB5.out.mono R1.out.size)); have HF6 := Lib.hid (own_keepA hA5 hk6 HR5.out (by decide)); have HA5 := Lib.hid hA5; have HP6 := Lib.hid hP6; have HK6 := Lib.hid hk6; have HR6 := Lib.hid hr6; have HS6 := Lib.hid hS6; have HB6 := Lib.hid hB6; clear hA5 hP5 hr6 hS6 hk6 hP6 hB6)
        | (go_at_call 30; have hB5 := (R5.out.below HB5.out).other HA5.out sce94R (by decide) HK6.out; refine (feedB (c := pcc) hB5 rfe96 HM1.out (HE2.out.below HB6.out) HPB.out HDB.out (by omega)).mono ?_; rw [HHs.out, HN.out]; rintro e w7 ⟨hv2, rfl, hr7, hS7, hk7⟩; have hA7 := HS6.out.other hB5 sce96 (by decide) hk7; have hP7 := own_keepB hB5 hk7 HP6.out (by decide); have q7 := (row_there hP7 (j := j) (by have := hP7.1; omega)).1; rw [HXJ.out] at q7; have HB7 := Lib.hid (below_keepB hB5 hk7 HB6.out); have HF7 := Lib.hid (own_keepB hB5 hk7 HF6.out (by decide)); have HX7 := Lib.hid (own_keepB hB5 hk7 HR6.out (by decide)); have HA7 := Lib.hid hA7; have HS7 := Lib.hid hS7; have HR7 := Lib.hid hr7; have HP7 := Lib.hid hP7; have HK7 := Lib.hid hk7; clear hB5 hA7 hS7 hr7 hk7 hP7)
        | (go_at_call 16; refine (sameHits_scans (hs := hs) ⟨⟨_, by rw [HN.out]; exact HX7.out⟩, _, by rw [HN.out]; exact HR7.out⟩ (by rw [HN.out]; omega)).mono ?_; rintro e w8 ⟨rfl, q1, rfl⟩)
        | (go_at_call 31; refine (atA (HA7.out.below (Below.drewN_self _ _))).mono ?_; rw [HAT.out]; rintro e w' ⟨rfl, rfl⟩)
        | (go_at_call 32; refine (atB (HS7.out.below (Below.drewN_self _ _))).mono ?_; rw [HAT.out]; rintro e w' ⟨rfl, rfl⟩)
        | (go_at_call 33; refine (heldA (HA7.out.below (Below.drewN_self _ _))).mono ?_; rintro e w8 ⟨hk1, hh1, rfl, hb8⟩; have q8 := hb8.cell (p := ⟨pg, j, none⟩) (HP7.out.lt pg rfl).2; have HH1 := Lib.hid hh1; have HB8 := Lib.hid hb8; clear hh1 hb8)
        | (go_at_call 34; refine (heldB ((HS7.out.below (Below.drewN_self _ _)).below HB8.out) HDB2.out).mono ?_; rintro e w9 ⟨hk2, hh2, rfl, q2, rfl⟩; obtain rfl := hh2.unique HH1.out; clear hh2)
        | (go_at_call 25; refine (kept_any g cap pa m1 pcc pl HM1.out (((HE2.out.below HB7.out).below (Below.drewN_self _ q1)).below (HB8.out.mono (Nat.le_refl _)) |>.drewN q2) (((own_bytes HF7.out).below (Below.drewN_self _ q1) (HF7.out.lt g rfl).2).below HB8.out (HF7.out.lt g rfl).2 |>.drewN q2) HC.out (by omega)).mono ?_; rintro e w10 ⟨rfl, q3, rfl⟩))
      have hX0 := Lib.hid (show Wr (w8.drewN (q2 + q3)) (.slice ho N hc) w5.heap.size 44 2 N (w8.drewN (q2 + q3)) from
        ⟨Keep.refl _ _ _, _, own_same HX7.out fun x q => HB8.out.block x (HX7.out.lt x q).2⟩)
      have hF0 := Lib.hid (own_same HF7.out fun x q => HB8.out.block x (HF7.out.lt x q).2)
      have hg5 := (HF7.out.lt g rfl)
      have hg5' := HR5.out.lt g rfl
      have hw5 := HB5.out.size
      have hw6 := HK6.out.size
      have hw7 := HK7.out.size
      have hw8 := HB8.out.size
      have hstep := Lib.hid (fun (w9 w10 : World) (h9 : Wr (w8.drewN (q2 + q3)) (.slice ho N hc) w5.heap.size 44 2 N w9) (h10 : Wr w9 (.slice (some ⟨g, 0, none⟩) (m1 + 2) cap) wr.heap.size 5 1 (m1 + 2) w10) =>
        scRel_step (w5 := w5) (w6 := w6) (w8 := w8.drewN (q2 + q3)) (pcs := pcs) (hx := hcs hs) hjp R2.out (by omega) hw5 hw6 (Nat.le_trans hw7 hw8) (Below.drewN' ((Below.drewN' HB7.out q1).trans (HB8.out.mono HB7.out.size)) _) (by rw [HPL.out]; exact own_same HP7.out fun x q => HB8.out.block x (HP7.out.lt x q).2) (fun b hb => (R3.out.lt b hb).2)
          (by rw [HD.out, HJ.out]; exact (HA7.out.below (Below.drewN_self _ q1)).below (HB8.out.trans (Below.drewN_self' _ _ _))) (by rw [HD.out, HJ.out]; exact (HS7.out.below (Below.drewN_self _ q1)).below (HB8.out.trans (Below.drewN_self' _ _ _))) HR6.out hg5' h9 h10)
      clear q5 q6 q7 q8 c0 HX7 HF7 HA7 HS7 HR7 HP7 HK7 HB7 HB8 HR6 HS6 HK6 HB6 HF6 HP6 HA5 HR5 HB5 HE2 HH1
      obtain ⟨wo, rfl⟩ : ∃ wo : World, wo = wr := ⟨_, rfl⟩
      go_loopw [17] (fun i wr => ∃ k : Nat, k ≤ N ∧ i = .int .i64 (k : Int) ∧ Wr (w8.drewN (q2 + q3)) (.slice ho N hc) w5.heap.size 44 2 N wr) (fun i _ => N - (intOf i).toNat)
      case atStart => exact ⟨0, by omega, rfl, hX0.out⟩
      case round =>
        clear hX0
        obtain ⟨k, hk, rfl, hX⟩ := hrel
        by_cases hlt2 : k < N
        · obtain ⟨_, ys, hys⟩ := id hX
          obtain ⟨g2, rfl⟩ := own_some hys (by omega)
          obtain ⟨u0, z0, z1⟩ := hX.cell (k := k * 2) (by omega)
          obtain ⟨u1, z2, z3⟩ := hX.cell (k := k * 2 + 1) (by omega)
          have v1 : IntKind.i64.wrap (-1 - (j : Int)) = -1 - (j : Int) := IntWalk.i64_in _ (by omega)
          have HX2 := Lib.hid ((hX.set (.int .i64 (-1 - (j : Int))) (k := k * 2) (by omega)).set (.int .i64 (k : Int)) (k := k * 2 + 1) (by omega))
          clear hX hys
          go_wp2
          go_roundw
          case rel => exact ⟨k + 1, by omega, by go_num, HX2.out⟩
          case measure => simp [intOf]; omega
        · obtain rfl : k = N := by omega
          have HX9 := Lib.hid hX
          clear hX
          have hF1 := Lib.hid (show Wr wr (.slice (some ⟨g, 0, none⟩) (m1 + 2) cap) wo.heap.size 5 1 (m1 + 2) wr from
            ⟨Keep.refl _ _ _, _, own_same hF0.out fun x q => HX9.out.1.block x (Nat.lt_of_lt_of_le (hF0.out.lt x q).2 (Nat.le_refl _)) (fun e => by
              obtain ⟨_, ys, hys⟩ := HX9.out
              have h1 := (hys.lt x e).1
              have h2 : g = x := by simpa [Value.ownBlock] using q
              omega)⟩)
          go_wp2
          obtain ⟨wp, rfl⟩ : ∃ wp : World, wp = wr := ⟨_, rfl⟩
          go_loopw [18] (fun i wr => ∃ k : Nat, k ≤ m1 + 2 ∧ i = .int .i64 (k : Int) ∧ Wr wp (.slice (some ⟨g, 0, none⟩) (m1 + 2) cap) wo.heap.size 5 1 (m1 + 2) wr) (fun i _ => m1 + 2 - (intOf i).toNat)
          case atStart => exact ⟨0, by omega, rfl, hF1.out⟩
          case round =>
            clear hF1
            obtain ⟨k2, hk2', rfl, hX⟩ := hrel
            by_cases hlt3 : k2 < m1 + 2
            · obtain ⟨u0, z0, z1⟩ := hX.cell (k := k2) (by omega)
              have HX2 := Lib.hid (hX.set (.int .u8 238) (k := k2) (by omega))
              clear hX
              go_wp2
              go_roundw
              case rel => exact ⟨k2 + 1, by omega, by go_num, HX2.out⟩
              case measure => simp [intOf]; omega
            · obtain rfl : k2 = m1 + 2 := by omega
              have HR2 := Lib.hid (hstep.out _ _ HX9.out hX)
              clear hX
              go_wp2
              go_roundw
              case rel => exact ⟨j + 1, by omega, by go_num, HR2.out⟩
              case measure => simp [intOf]; omega
    · obtain rfl : j = q + 1 := by omega
      go_wp2
      go_ret
      exact ⟨rfl, hR.1⟩
end Go.Proofs.Ythkaicbkcaiffaa
