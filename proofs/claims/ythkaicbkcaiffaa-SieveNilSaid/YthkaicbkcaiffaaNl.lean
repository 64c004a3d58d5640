/-
  SieveNil: nil objects, and the law's walk. Conditions: none.
-/
import Derived.Test.YthkaicbkcaiffaaLc
import Derived.Test.YthkaicbkcaiffaaS
import Derived.Lib.SlBytesConst
namespace Go.Proofs.Ythkaicbkcaiffaa
open Go.RowKit

set_option maxRecDepth 100000 in
theorem rewriter_nil (ao : Option Addr) (n c : Nat) (w : World) : Calls Try.prog 42 #[.pointer none, .slice ao n c] w fun e w' => e = .returned (.tuple #[.pointer none, .int .i64 0]) ∧ w' = w := by
  go_enter Try.func42, Try.ntmps42
  go_wp2
  go_ret2
  exact ⟨rfl, rfl⟩
theorem masker_nil (w : World) : Calls Try.prog 45 #[.pointer none] w fun e w' => e = .returned (.pointer none) ∧ w' = w := by
  go_enter Try.func45, Try.ntmps45
  go_wp2
  go_ret
  exact ⟨rfl, rfl⟩
set_option maxRecDepth 100000 in
theorem rfeed_nil (ao : Option Addr) (n c : Nat) (w : World) : Calls Try.prog 53 #[.pointer none, .slice ao n c] w fun e w' => e = .returned (.tuple #[.slice none 0 0, .int .i64 0, .int .i64 0]) ∧ w' = w := by
  go_enter Try.func53, Try.ntmps53
  go_wp2
  go_ret3
  exact ⟨rfl, rfl⟩
set_option maxRecDepth 100000 in
theorem rclose_nil (w : World) : Calls Try.prog 56 #[.pointer none] w fun e w' => e = .returned (.tuple #[.slice none 0 0, .int .i64 0, .int .i64 0]) ∧ w' = w := by
  go_enter Try.func56, Try.ntmps56
  go_wp2
  go_ret3
  exact ⟨rfl, rfl⟩
theorem rat_nil (w : World) : Calls Try.prog 54 #[.pointer none] w fun e w' => e = .returned (.int .i64 0) ∧ w' = w := by
  go_enter Try.func54, Try.ntmps54
  go_wp2
  go_ret
  exact ⟨rfl, rfl⟩
theorem rheld_nil (w : World) : Calls Try.prog 55 #[.pointer none] w fun e w' => e = .returned (.int .i64 0) ∧ w' = w := by
  go_enter Try.func55, Try.ntmps55
  go_wp2
  go_ret
  exact ⟨rfl, rfl⟩
theorem append_none27 (w : World) : (Builtin.append_ #[27, 27] 27 #[.slice none 0 0, .slice none 0 0]).run Try.prog w = .ok (.slice none 0 0) w := by
  simp [Builtin.append_, go_sem, Builtin.lenOf, Builtin.firstCells]
set_option maxRecDepth 100000 in
theorem whole_nil (ao : Option Addr) (n c : Nat) (w : World) : Calls Try.prog 74 #[.pointer none, .slice ao n c] w fun e w' => e = .returned (.tuple #[.slice none 0 0, .int .i64 0, .int .i64 0]) ∧ w' = w := by
  have ha := append_none27
  go_enter Try.func74, Try.ntmps74
  go_wp2_with (first
    | (go_at_call 53; refine (rfeed_nil _ _ _ _).mono ?_; rintro e w2 ⟨rfl, rfl⟩)
    | (go_at_call 56; refine (rclose_nil _).mono ?_; rintro e w2 ⟨rfl, rfl⟩)
    | (at_builtin; refine wpList_append_run rfl (.tmp 30) (.tmp 31) #[27, 27] rfl _ _ _ _ rfl rfl (ha _) ?_))
  go_ret3
  exact ⟨rfl, rfl⟩
set_option maxRecDepth 100000 in
theorem rewrite_nil (ao bo : Option Addr) (n c n' c' : Nat) (w : World) : Calls Try.prog 49 #[.pointer none, .slice ao n c, .slice bo n' c'] w fun e w' => e = .returned (.tuple #[.slice none 0 0, .int .i64 0, .int .i64 0]) ∧ w' = w := by
  go_enter Try.func49, Try.ntmps49
  go_wp2_with (first
    | (go_at_call 42; refine (rewriter_nil _ _ _ _).mono ?_; rintro e w2 ⟨rfl, rfl⟩)
    | (go_at_call 74; refine (whole_nil _ _ _ _).mono ?_; rintro e w2 ⟨rfl, rfl⟩))
  go_ret3
  exact ⟨rfl, rfl⟩
set_option maxRecDepth 100000 in
theorem mask_nil (ao : Option Addr) (n c : Nat) (w : World) : Calls Try.prog 51 #[.pointer none, .slice ao n c] w fun e w' => e = .returned (.tuple #[.slice none 0 0, .slice none 0 0, .int .i64 0, .int .i64 0]) ∧ w' = w := by
  go_enter Try.func51, Try.ntmps51
  go_wp2_with (first
    | (go_at_call 45; refine (masker_nil _).mono ?_; rintro e w2 ⟨rfl, rfl⟩)
    | (go_at_call 74; refine (whole_nil _ _ _ _).mono ?_; rintro e w2 ⟨rfl, rfl⟩)
    | (go_at_call 23; refine (scan_nil _ _ _ _).mono ?_; rintro e w2 ⟨rfl, rfl⟩))
  exact bodyPost_ret (v := .tuple #[.slice none 0 0, .slice none 0 0, .int .i64 0, .int .i64 0]) (by simp [results, Try.results51, go_sem]) rfl ⟨rfl, rfl⟩

def psN : List ByteArray := [⟨#[97, 98]⟩, ⟨#[98, 99]⟩]
theorem newE_psN : newE psN = 0 := by
  refine newE_ok (by decide) (fun i hi => ?_) (by decide)
  have : i = 0 ∨ i = 1 := by simp [psN] at hi; omega
  rcases this with rfl | rfl <;> exact ⟨rfl, by decide, by decide⟩
theorem hits_psN : (hitsOf (psN.map bts) (wdOf psN) 0 [] [97, 98, 99, 97, 98]).length = 3 := by decide

set_option maxRecDepth 100000 in
set_option maxHeartbeats 4000000 in
theorem nil_any (w : World) : Calls Try.prog 13 #[] w fun e w' => e = .returned (.bool true) ∧ Below w.heap.size w w' := by
  have hs : ∀ w : World, Strs (w.alloc (.cells #[.string ⟨#[97, 98]⟩, .string ⟨#[98, 99]⟩] 9)) (some ⟨w.heap.size, 0, none⟩) psN := fun w _ =>
    ⟨w.heap.size, 0, rfl, by simp, fun i hi => by
      have : i = 0 ∨ i = 1 := by simp [psN] at hi; omega
      rcases this with rfl | rfl <;> exact (Blk.new (w := w)).cell rfl⟩
  have hd : ∀ w : World, Dat (w.alloc (.cells #[.int .u8 97, .int .u8 98, .int .u8 99, .int .u8 97, .int .u8 98] 5 (5, 6))) (some ⟨w.heap.size, 0, none⟩) [97, 98, 99, 97, 98] := fun w _ =>
    ⟨w.heap.size, 0, rfl, #[.int .u8 97, .int .u8 98, .int .u8 99, .int .u8 97, .int .u8 98], (5, 6), by show (w.heap.push _)[w.heap.size]? = _; simp, fun i hi => by
      have : i = 0 ∨ i = 1 ∨ i = 2 ∨ i = 3 ∨ i = 4 := by simp at hi; omega
      rcases this with rfl | rfl | rfl | rfl | rfl <;> rfl⟩
  have HS := Lib.hid hs
  have HD := Lib.hid hd
  have H3 := Lib.hid hits_psN
  have kc : ∀ (w : World) (C : Array Value) (n c H : Nat), w.heap.size = H → (convert 27 27 (.slice (some ⟨H, 0, none⟩) n c)).run Try.prog (w.alloc (.cells C 5)) = .ok (.slice (some ⟨H, 0, none⟩) n c) (w.alloc (.cells C 5 (C.size, C.size + 1))) := fun w C n c H h => by
    subst h; exact Lib.run_convert_bytes_const (P := Try.prog) w 27 5 C n c Try.underlying27 Try.underlying5
  clear hs hd
  go_enter Try.func13, Try.ntmps13
  go_upto_if 44 with (first
    | (go_at_call 37; refine (new_ok (ps := psN) rfl (HS.out _) newE_psN).mono ?_; rintro e w2 ⟨sb, tb, mb, nb, cap, T, rfl, hb2, hS, hA⟩; have HB2 := Lib.hid hb2; have HSv := Lib.hid hS; have HA := Lib.hid hA; clear hb2 hS hA)
    | (go_at_call 18; refine (show Calls Try.prog 18 #[.pointer (some ⟨sb, 0, none⟩)] _ fun e w' => e = .returned (.int .i64 2) ∧ w' = _ from len_at HSv.out).mono ?_; rintro e w3 ⟨rfl, rfl⟩)
    | (go_at_call 20; refine (show Calls Try.prog 20 #[.pointer (some ⟨sb, 0, none⟩)] _ fun e w' => e = .returned (.int .i64 2) ∧ w' = _ from width_at HSv.out).mono ?_; rintro e w3 ⟨rfl, rfl⟩)
    | (go_at_call 23; refine (scan_at (HSv.out.below ((Below.refl _ _).alloc (Nat.le_refl _) _)) HA.out (wd_le newE_psN) rfl (HD.out _) (by decide) (by decide)).mono ?_; rw [H3.out]; rintro e w3 ⟨hv, rfl, hb3, hr⟩; obtain ⟨ho, hc, rfl⟩ := own_form hr; have HB3 := Lib.hid hb3; clear hb3 hr))
  have HB0 := Lib.hid (show Below w.heap.size w w3 from by
    have h1 : Below w.heap.size w (w.alloc (.cells #[.string ⟨#[97, 98]⟩, .string ⟨#[98, 99]⟩] 9)) := (Below.refl _ _).alloc (Nat.le_refl _) _
    have h2 := h1.trans (HB2.out.mono h1.size)
    exact (h2.alloc h2.size _).trans (HB3.out.mono (le_alloc h2.size)))
  go_cut [] (fun wx => Below w.heap.size w wx)
  case first =>
    go_wp2
    go_meet
    exact HB0.out
  case rest =>
    have HB1 := Lib.hid hcut
    clear hcut HD HS H3 HB0 HB2 HSv HA HB3
    go_upto_if 84 with (first
      | (go_at_call 42; refine (rewriter_nil _ _ _ _).mono ?_; rintro e w3 ⟨rfl, rfl⟩)
      | (go_at_call 45; refine (masker_nil _).mono ?_; rintro e w3 ⟨rfl, rfl⟩)
      | (go_at_call 26; refine (scanner_nil _).mono ?_; rintro e w3 ⟨rfl, rfl⟩)
      | (go_at_call 18; refine (len_nil _).mono ?_; rintro e w3 ⟨rfl, rfl⟩)
      | (go_at_call 20; refine (width_nil _).mono ?_; rintro e w3 ⟨rfl, rfl⟩)
      | (go_at_call 23; refine (scan_nil _ _ _ _).mono ?_; rintro e w3 ⟨rfl, rfl⟩))
    go_cut [] (fun wx => Below w.heap.size w wx)
    case first =>
      go_wp2
      go_meet
      exact (HB1.out.alloc HB1.out.size _).alloc (le_alloc HB1.out.size) _
    case rest =>
      have HB2 := Lib.hid hcut
      clear hcut HB1
      go_upto_if 130 with (first
        | (go_at_call 49; refine (rewrite_nil _ _ _ _ _ _ _).mono ?_; rintro e w3 ⟨rfl, rfl⟩)
        | (go_at_call 51; refine (mask_nil _ _ _ _).mono ?_; rintro e w3 ⟨rfl, rfl⟩))
      go_cut [] (fun wx => Below w.heap.size w wx)
      case first =>
        go_wp2
        go_meet
        exact (HB2.out.alloc HB2.out.size _).alloc (le_alloc HB2.out.size) _
      case rest =>
        have HB3 := Lib.hid hcut
        clear hcut HB2
        go_wp2_with (first
          | (go_at_call 53; refine (rfeed_nil _ _ _ _).mono ?_; rintro e w3 ⟨rfl, rfl⟩)
          | (go_at_call 56; refine (rclose_nil _).mono ?_; rintro e w3 ⟨rfl, rfl⟩)
          | (go_at_call 54; refine (rat_nil _).mono ?_; rintro e w3 ⟨rfl, rfl⟩)
          | (go_at_call 55; refine (rheld_nil _).mono ?_; rintro e w3 ⟨rfl, rfl⟩)
          | (go_at_call 29; refine (feed_nil _ _ _ _).mono ?_; rintro e w3 ⟨rfl, rfl⟩)
          | (go_at_call 31; refine (at_nil _).mono ?_; rintro e w3 ⟨rfl, rfl⟩)
          | (go_at_call 33; refine (held_nil _).mono ?_; rintro e w3 ⟨rfl, rfl⟩))
        go_ret
        exact ⟨rfl, (HB3.out.alloc HB3.out.size _).alloc (le_alloc HB3.out.size) _⟩
end Go.Proofs.Ythkaicbkcaiffaa
