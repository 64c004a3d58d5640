/-
  Bytes and strings copied, kept, compared: the laws' helpers. Conditions: none.
-/
import Derived.Test.YthkaicbkcaiffaaU
import Derived.Test.YthkaicbkcaiffaaOz
import Derived.Laws.CopyOwn
import Derived.Laws.BytesArg
namespace Go.Proofs.Ythkaicbkcaiffaa
open Go.RowKit

theorem infoU8 : (Try.prog.info? 5).map (fun i => (i.zero, i.size, i.bytes)) = some (some (.int .u8 0), 1, 1) := by kernel_rfl
theorem size5 : (Try.prog.info? 5).map (·.size) = some 1 := by kernel_rfl
theorem size9 : (Try.prog.info? 9).map (·.size) = some 1 := by kernel_rfl
theorem infoStr : (Try.prog.info? 9).map (fun i => (i.zero, i.size, i.bytes)) = some (some (.string .empty), 1, 16) := by kernel_rfl
theorem add0 (b off j : Nat) : (⟨b, off, none⟩ : Addr).add j = ⟨b, off + j, none⟩ := by unfold Addr.add; split <;> simp_all

/-- Bytes that are read: none need lie nowhere. -/
def Byt (w : World) (ao : Option Addr) (l : List Nat) : Prop := 0 < l.length → ∃ b off, ao = some ⟨b, off, none⟩ ∧ b < w.heap.size ∧ ByteCells w b off l
theorem Byt.below {w w' : World} {ao : Option Addr} {l : List Nat} (h : Byt w ao l) (hb : Below w.heap.size w w') : Byt w' ao l := by
  intro h0
  obtain ⟨b, off, h1, h2, h3⟩ := h h0
  exact ⟨b, off, h1, Nat.lt_of_lt_of_le h2 hb.size, h3.below hb h2⟩
theorem Byt.drewN {w : World} {ao : Option Addr} {l : List Nat} (h : Byt w ao l) (k : Nat) : Byt (w.drewN k) ao l := h
theorem ByteCells.lt' {w : World} {b off : Nat} {l : List Nat} (h : ByteCells w b off l) (h0 : 0 < l.length) : b < w.heap.size := by
  have := h 0 h0
  by_cases hb : b < w.heap.size
  · exact hb
  · unfold World.cell? at this; simp [Array.getElem?_eq_none (show w.heap.size ≤ b by omega)] at this
theorem splice_all {α : Type} {L cs : List α} (h : L.length = cs.length) : splice L 0 cs = cs := by
  unfold splice; simp [List.drop_of_length_le (show L.length ≤ cs.length by omega)]
theorem u8s_toList (l : List Nat) : (u8s l).toList = l.map fun x : Nat => Value.int .u8 (x : Int) := by simp [u8s]

set_option maxHeartbeats 400000 in
set_option maxRecDepth 100000 in
theorem copied_any {w : World} (ao : Option Addr) (n c : Nat) (l : List Nat) (hn : l.length = n) (hl : Byt w ao l) (hmax : n ≤ 140737488351232) :
    Calls Try.prog 38 #[.slice ao n c] w fun e w' => e = .returned (.slice (some ⟨w.heap.size, 0, none⟩) n n) ∧ Blk w' w.heap.size 5 (u8s l) ∧ Below w.heap.size w w' := by
  have hmk := run_make_row' (P := Try.prog) 27 5 (.int .u8 0) 1 Try.underlying27 infoU8 rfl .i64 .i64 n (by omega) (by omega)
  have HL := Lib.hid hl
  have HN := Lib.hid hn
  have hblk : ∀ w : World, Blk (w.alloc (.cells (madeCells #[.int .u8 0] n) 5)) w.heap.size 5 (List.replicate n (Value.int .u8 0)).toArray := fun w => by
    have e : madeCells #[.int .u8 0] n = (List.replicate n (Value.int .u8 0)).toArray := by rw [u8s_made]; simp [u8s]
    rw [← e]; exact Blk.new
  have HB := Lib.hid hblk
  obtain ⟨cs, hcs⟩ : ∃ cs, (l.map fun x : Nat => Value.int .u8 (x : Int)) = cs := ⟨_, rfl⟩
  have HCL := Lib.hid (show cs.length = n by rw [← hcs]; simpa using hn)
  have HC := Lib.hid hcs
  have H1 := Lib.hid (show ∀ v ∈ cs, v.oneCell' = true by rw [← hcs]; intro v hv; simp only [List.mem_map] at hv; obtain ⟨x, _, rfl⟩ := hv; rfl)
  have HP := Lib.hid (show 0 < cs.length → ∃ ad, ao = some ad ∧ ∀ j v, cs[j]? = some v → (w.alloc (.cells (madeCells #[.int .u8 0] n) 5)).cell? (ad.add j) = some v by
    intro h0
    rw [HCL.out] at h0
    obtain ⟨b, off, rfl, hb, hcells⟩ := hl (by omega)
    refine ⟨_, rfl, fun j v hj => ?_⟩
    rw [add0, World.cell?_alloc_lt _ _ _ hb]
    rw [← hcs] at hj
    have hjl : j < l.length := by have := (List.getElem?_eq_some_iff.1 hj).1; simpa using this
    rw [hcells j hjl]
    rw [← hj]; simp [List.getD, hjl])
  clear hl hn hblk hcs
  go_enter Try.func38, Try.ntmps38
  go_wp2_with (first | (refine wpList_copy_splice (o := ⟨some 9, _, _, _, _, _⟩) rfl (.tmp 7) (.tmp 8) 27 27 rfl 5 Try.underlying27 size5 (some ⟨w.heap.size, 0, none⟩) ao n n n c rfl rfl w.heap.size 0 (List.replicate n (Value.int .u8 0)) 5 (HB.out w) cs (by rw [HCL.out]; simp) (fun h0 => ⟨rfl, HP.out h0⟩) (by rw [HCL.out]; simp) H1.out w.heap.size w ((Below.refl _ _).alloc (Nat.le_refl _) _) (Nat.le_refl _) ?_; intro w2 HG2 hB2; have HB2 := Lib.hid hB2; clear hB2))
  go_ret
  refine ⟨rfl, ?_, HB2.out⟩
  have h2 := HG2.out
  rw [splice_all (by rw [HCL.out]; simp), ← HC.out] at h2
  exact h2

theorem own_of_blk {w : World} {b base n cap : Nat} {e : TypeId} {cs : Array Value} (h : Blk w b e cs) (hb : base ≤ b) (hs : cs.size = cap) (hn : n ≤ cap) (hc : cap ≤ maxLen) : w.ownsRow base e 1 (.slice (some ⟨b, 0, none⟩) n cap) n (cs.toList.take n) :=
  ⟨by simp; omega, .inr ⟨b, cap, cs, rfl, hb, h, hn, hc, by omega, by rw [Nat.mul_one]⟩⟩
theorem byte_list_append (l m : List Nat) : (l.map fun x : Nat => Value.int .u8 (x : Int)) ++ (m.map fun x : Nat => Value.int .u8 (x : Int)) = (l ++ m).map fun x : Nat => Value.int .u8 (x : Int) := by simp

set_option maxRecDepth 100000 in
set_option maxHeartbeats 400000 in
theorem roomy_any {w : World} (ao : Option Addr) (n c : Nat) (l : List Nat) (hn : l.length = n) (hl : Byt w ao l) (hmax : n ≤ 1099511627776) :
    Calls Try.prog 22 #[.slice ao n c] w fun e w' => ∃ g cap, e = .returned (.slice (some ⟨g, 0, none⟩) (n + 2) cap) ∧ n + 2 ≤ cap ∧
      w'.ownsRow w.heap.size 5 1 (.slice (some ⟨g, 0, none⟩) (n + 2) cap) (n + 2) ((l ++ [90, 165]).map fun x : Nat => .int .u8 (x : Int)) ∧ Below w.heap.size w w' := by
  have HC := Lib.hid (copied_any ao n c l hn hl (by omega))
  have HN := Lib.hid hn
  obtain ⟨i0, a1, a2, a3, a4⟩ := info_parts infoU8
  have hmx : n + 2 ≤ maxLen := by unfold maxLen; omega
  have hby : (n + 2) * 1 ≤ 140737488355328 := by omega
  clear hl hn
  go_enter Try.func22, Try.ntmps22
  go_wp2_with (first
    | (go_at_call 38; refine HC.out.mono ?_; rintro e w1 ⟨rfl, hblk, hb1⟩; have hown := own_of_blk (base := w.heap.size) (n := n) (cap := n) hblk (Nat.le_refl _) (by rw [u8s_size]; exact HN.out) (Nat.le_refl _) (by unfold maxLen; omega); have hbs := hb1.size; have HB := Lib.hid hblk; have HB1 := Lib.hid hb1; have HO := Lib.hid hown; clear hblk hb1 hown)
    | (at_builtin; refine wpList_append_lies _ (by rfl) (.tmp 4) (.tmp 5) 27 (by rfl) w.heap.size 5 i0 (.int .u8 0) 1 1 Try.underlying27 a1 a2 a3 a4 (by rfl) (by decide) (.slice (some ⟨w.heap.size, 0, none⟩) n n) n ((u8s l).toList.take n) (by rfl) (HO.out.alloc _) ⟨w1.heap.size, 0, none⟩ 2 2 [.int .u8 90, .int .u8 165] (by rfl) (by rfl) (fun _ _ hj => alloc_cells _ _ hj) (by intro u hu; simp at hu; rcases hu with rfl | rfl <;> rfl) (by decide) hmx hby (le_alloc hbs) (w1.heap.size + 1) (size_alloc1 _ _) ?_; intro g cap2 w4 hown hgrow hat hlt3; have HO4 := Lib.hid hown; have HG := Lib.hid hgrow; clear hown hgrow hat))
  go_ret
  have h4 := HO4.out
  have hc := (row_cells h4).2.1
  refine ⟨g, cap2, rfl, hc, ?_, ((HB1.out.alloc hbs _).grown HG.out (le_alloc hbs) (fun k hk => (HO.out.lt k hk).1))⟩
  rw [u8s_toList, List.take_of_length_le (by simp; exact Nat.le_of_eq HN.out)] at h4
  rw [← byte_list_append]; exact h4
end Go.Proofs.Ythkaicbkcaiffaa
