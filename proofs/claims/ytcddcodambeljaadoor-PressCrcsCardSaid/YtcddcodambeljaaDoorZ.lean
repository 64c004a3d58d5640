import Derived.Test.YtcddcodambeljaaDoorL
import Derived.StillTailTactics
import Derived.Deep.DeepCutAuto
import Derived.Deep.CutRange
import Derived.Outline
import Derived.Lib.Hide
import Derived.Lib.SlBytesConst
namespace Go.Proofs.YtcddcodambeljaaDoor.Zero
open Go.RowKit
open CrcMath (crc num)
set_option maxHeartbeats 400000 in
theorem crc_empty (ao : Option Addr) (cap : Nat) (w : World) :
    Calls Tryd.prog 4 #[.slice ao 0 cap] w fun e w' => e = .returned (.int .u32 0) ∧ w' = w := by
  go_enter Tryd.func4, Tryd.ntmps4
  go_wp2
  refine wp_loop_rounds 1 ?_
  rw [rounds_succ]
  go_wp2
  go_ret
  exact ⟨rfl, rfl⟩

theorem slice_zero (ao : Option Addr) (n c : Nat) (K : ao = none → c = 0) (w : World) : (Instr.slice 22 (.slice ao n c) none (some (.int .i64 0)) none).run Tryd.prog w = .ok (.slice ao 0 c) w := by
  cases ao with
  | none => rw [K rfl]; go_simp
  | some a => go_simp
set_option maxHeartbeats 1000000 in
set_option maxRecDepth 100000 in
theorem law_zero (ao bo co : Option Addr) (n0 c0 n1 c1 n2 c2 : Nat) (at_ : Int) (burst : Nat) (w : World) (h0 : n0 ≤ 140737488351232) (h1 : n1 ≤ 140737488351232) (h2 : n2 ≤ 140737488351232)
    (hz : min (min n0 n1) n2 = 0) (K0 : ao = none → c0 = 0) (K1 : bo = none → c1 = 0) (K2 : co = none → c2 = 0) (T : TableAt w) (hT : 0 < w.heap.size) :
    Calls Tryd.prog 3 #[.slice ao n0 c0, .slice bo n1 c1, .slice co n2 c2, .int .i64 at_, .int .u32 burst] w fun e w' => e = .returned (.bool true) ∧ Below w.heap.size w w' := by
  go_enter Tryd.func3, Tryd.ntmps3
  go_upto_if 21 with (fail)
  go_cut [11] (fun s wx => s = .int .i64 (min n0 n1 : Nat) ∧ w = wx)
  case first =>
    go_wp2
    all_goals go_meet
    all_goals exact ⟨by go_num, rfl⟩
  case rest =>
    obtain ⟨rfl, rfl⟩ := hcut
    obtain ⟨m, hm, hm1⟩ : ∃ m, m = min n0 n1 ∧ m ≤ 140737488351232 := ⟨_, rfl, by omega⟩
    rw [← hm]
    go_upto_if 27 with (fail)
    go_cut [11] (fun s wx => s = .int .i64 0 ∧ w = wx)
    case first =>
      go_wp2
      all_goals go_meet
      all_goals exact ⟨by go_num, rfl⟩
    case rest =>
      obtain ⟨rfl, rfl⟩ := hcut
      have hmk := run_make_row' (P := Tryd.prog) 22 5 (.int .u8 0) 1 Tryd.underlying22 infoU8 rfl .i64 .i64 0 (by omega) (by omega)
      have hmk : ∀ (w : World), (Instr.makeSlice 22 (.int .i64 0) (.int .i64 0)).run Tryd.prog w = .ok (.slice (some ⟨w.heap.size, 0, none⟩) 0 0) (w.alloc (.cells (madeCells #[.int .u8 0] 0) 5)) := hmk
      have s0 := slice_zero ao n0 c0 K0
      have s1 := slice_zero bo n1 c1 K1
      have s2 := slice_zero co n2 c2 K2
      go_wp2
      have bx : bits BinOp.xor .u32 0 0 = 0 := by rfl
      refine wp_loop_rounds 1 ?_
      rw [rounds_succ]
      go_wp2
      refine wp_region_still_tail 18 (by kernel_rfl) (by kernel_rfl) ?_
      simp only [List.take_succ_cons, List.take_zero, List.drop_succ_cons, List.drop_zero]
      repeat still_step
      still_call (crc_empty _ _ _)
      repeat still_step
      still_call (crc_empty _ _ _)
      repeat still_step
      still_call (crc_empty _ _ _)
      repeat still_step
      still_call (crc_empty _ _ _)
      repeat still_step
      refine wpStill_nil ?_
      change wpList _ _ _ _ _ (w.alloc (Obj.cells (madeCells #[Value.int IntKind.u8 0] 0) 5)).drew
      obtain ⟨wr, hwr⟩ : ∃ wr, wr = w.alloc (Obj.cells (madeCells #[Value.int IntKind.u8 0] 0) 5) := ⟨_, rfl⟩
      have hT2 : TableAt wr := by rw [hwr]; exact T.alloc hT
      have hl : Below w.heap.size w wr := by rw [hwr]; exact (Below.refl _ _).alloc (Nat.le_refl _) _
      have hs0 : w.heap.size + 1 = wr.heap.size := by rw [hwr]; simp
      rw [← hwr]
      clear hwr hmk s0 s1 s2 bx
      have HS := Lib.hid hs0
      clear hs0
      have kc : ∀ (C : Array Value) (n c : Nat), (convert 22 22 (.slice (some ⟨wr.heap.size, 0, none⟩) n c)).run Tryd.prog (wr.alloc (.cells C 5)).drew = .ok (.slice (some ⟨wr.heap.size, 0, none⟩) n c) (wr.alloc (.cells C 5 (C.size, C.size + 1))).drew := fun C n c => Lib.run_convert_bytes_const (P := Tryd.prog) wr.drew 22 5 C n c Tryd.underlying22 Tryd.underlying5
      have CK := Lib.hid (crc_val (cap := 9) (off := 0) known_crc (show known.length = 9 from rfl) (by decide) known_lt (known_cells wr) (hT2.alloc (by have := HS.out; omega)))
      go_wp2_with (go_at_call 4; refine CK.out.mono ?_; rintro e w' ⟨rfl, rfl⟩)
      all_goals go_ret
      all_goals exact ⟨rfl, (hl.alloc (by have := HS.out; omega) _).drew⟩
end Go.Proofs.YtcddcodambeljaaDoor.Zero
