/-
  At, Held and Scan of the sieve; the same of nil. Conditions: none.
-/
import Derived.Test.YthkaicbkcaiffaaF
namespace Go.Proofs.Ythkaicbkcaiffaa
open Go.RowKit

theorem at_at {w : World} {et : TypeId} {ex : Array Value} {sb cb at_ node : Nat} (hc : Blk w cb et (scX sb at_ node ex)) : Calls Try.prog 31 #[.pointer (some ⟨cb, 0, none⟩)] w fun e w' => e = .returned (.int .i64 (at_ : Int)) ∧ w' = w := by
  have k1 : w.cell? ⟨cb, 1, none⟩ = some (.int .i64 (at_ : Int)) := hc.cell scX_1
  go_enter Try.func31, Try.ntmps31
  go_wp2
  go_ret
  exact ⟨rfl, rfl⟩
theorem at_nil (w : World) : Calls Try.prog 31 #[.pointer none] w fun e w' => e = .returned (.int .i64 0) ∧ w' = w := by
  go_enter Try.func31, Try.ntmps31
  go_wp2
  go_ret
  exact ⟨rfl, rfl⟩
theorem held_nil (w : World) : Calls Try.prog 33 #[.pointer none] w fun e w' => e = .returned (.int .i64 0) ∧ w' = w := by
  go_enter Try.func33, Try.ntmps33
  go_wp2
  go_ret
  exact ⟨rfl, rfl⟩
theorem feed_nil (ao : Option Addr) (n c : Nat) (w : World) : Calls Try.prog 29 #[.pointer none, .slice ao n c] w fun e w' => e = .returned (.slice none 0 0) ∧ w' = w := by
  go_enter Try.func29, Try.ntmps29
  go_wp2
  go_ret
  exact ⟨rfl, rfl⟩
theorem scan_nil (ao : Option Addr) (n c : Nat) (w : World) : Calls Try.prog 23 #[.pointer none, .slice ao n c] w fun e w' => e = .returned (.slice none 0 0) ∧ w' = w := by
  go_enter Try.func23, Try.ntmps23
  go_wp2
  go_ret
  exact ⟨rfl, rfl⟩
set_option maxRecDepth 100000 in
theorem held_at {w : World} {base sb tb mb nb cap wd n cb at_ node : Nat} {T : Tb} {P : List (List Nat)} {D : List Nat} (h : SieveAt w base sb tb mb nb cap wd n T) (A : Auto T P wd)
    {et : TypeId} {ex : Array Value} (hc : Blk w cb et (scX sb at_ node ex)) (hD : Best T D node) : Calls Try.prog 33 #[.pointer (some ⟨cb, 0, none⟩)] w fun e w' => ∃ k : Nat, IsHeld P wd D k ∧ e = .returned (.int .i64 (k : Int)) ∧ Below w.heap.size w w' := by
  have k0 : w.cell? ⟨cb, 0, none⟩ = some (.pointer (some ⟨sb, 0, none⟩)) := hc.cell scX_0
  have k2 : w.cell? ⟨cb, 2, none⟩ = some (.int .i32 (node : Int)) := hc.cell scX_2
  have s2 : w.cell? ⟨sb, 2, none⟩ = some (.pointer (some ⟨tb, 0, none⟩)) := h.head.cell rfl
  have HO := Lib.hid (open_any (w := w.drew) (show TabAt w.drew base tb mb nb cap T from ⟨h.tab.head, h.tab.map, h.tab.row, h.tab.b1, h.tab.b2⟩) A.wf node (A.lt D node hD))
  have HH := Lib.hid (A.opn D node hD)
  clear h A hc hD
  go_enter Try.func33, Try.ntmps33
  go_upto_region 3 with fail
  refine region_tail 11 (by kernel_rfl) (by kernel_rfl) ?_
  simp only [List.take_succ_cons, List.take_zero, List.drop_succ_cons, List.drop_zero]
  repeat still_step
  refine wpStill_nil ?_
  go_wp2_with (go_at_call 64; refine HO.out.mono ?_; rintro e w2 ⟨rfl, hbw⟩; have HB := Lib.hid hbw; clear hbw)
  go_ret
  exact ⟨_, HH.out, rfl, (Below.refl w.heap.size w).drew.trans HB.out⟩

theorem row_mono {w : World} {b b' n size : Nat} {e : TypeId} {v : Value} {xs : List Value} (h : w.ownsRow b e size v n xs) (hb : b' ≤ b) : w.ownsRow b' e size v n xs := by
  refine ⟨h.1, ?_⟩
  rcases h.2 with hn | ⟨g, cap, cur, hv, hg, r⟩
  · exact .inl hn
  · exact .inr ⟨g, cap, cur, hv, Nat.le_trans hb hg, r⟩
set_option maxHeartbeats 400000 in
theorem scan_at {w : World} {base sb tb mb nb cap wd n m pc : Nat} {T : Tb} {P : List (List Nat)} {l : List Nat} {ao : Option Addr} (h : SieveAt w base sb tb mb nb cap wd n T) (A : Auto T P wd) (hwd : wd ≤ 64)
    (hm : l.length = m) (hl : Dat w ao l) (hb : ∀ b ∈ l, b < 256) (hat : m < 1099511627776) :
    Calls Try.prog 23 #[.pointer (some ⟨sb, 0, none⟩), .slice ao m pc] w fun e w' => ∃ hv, e = .returned hv ∧ Below w.heap.size w w' ∧ w'.ownsRow w.heap.size 44 2 hv (hitsOf P wd 0 [] l).length (hcs (hitsOf P wd 0 [] l)) := by
  have HS := Lib.hid (scanner_at w sb)
  have hbl : Below w.heap.size w (w.alloc (.cells (scCells sb 0 0) 94)) := (Below.refl _ w).alloc (Nat.le_refl _) _
  have HF := Lib.hid (feed_at (D := []) (pc := pc) (ao := ao) (h.below hbl) A hwd (cb := w.heap.size) (at_ := 0) (node := 0) (et := 94) (ex := #[]) sce94 (by rw [scX_nil]; exact Blk.new) A.nil hm (fun h0 => by
    obtain ⟨b, off, h1, h2⟩ := hl h0
    exact ⟨b, off, h1, h2.of_block (hbl.block b h2.lt)⟩) hb (by omega))
  clear h A hl hb hbl
  go_enter Try.func23, Try.ntmps23
  go_wp2_with (first
    | (go_at_call 26; refine HS.out.mono ?_; rintro e w2 ⟨rfl, rfl⟩)
    | (go_at_call 29; refine HF.out.mono ?_; rintro e w2 ⟨hv, rfl, hrel⟩; have HR := Lib.hid hrel; clear hrel))
  go_ret
  obtain ⟨nd, r1, r2, r3, r4⟩ := HR.out
  rw [List.take_of_length_le (by omega)] at r4
  have hsz : (w.alloc (.cells (scCells sb 0 0) 94)).heap.size = w.heap.size + 1 := by simp
  refine ⟨hv, rfl, ?_, row_mono r4 (by omega)⟩
  refine ((Below.refl _ w).alloc (Nat.le_refl _) (.cells (scCells sb 0 0) 94)).trans ⟨r3.os, r3.tape, r3.output, r3.size, fun k hk => r3.block k (by omega) (by omega)⟩
end Go.Proofs.Ythkaicbkcaiffaa
