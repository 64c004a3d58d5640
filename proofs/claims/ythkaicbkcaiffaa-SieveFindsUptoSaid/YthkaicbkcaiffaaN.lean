/-
  sieve.New: the walk. Conditions: none.
-/
import Derived.Test.YthkaicbkcaiffaaG
import Derived.Lib.ConvBytes
namespace Go.Proofs.Ythkaicbkcaiffaa
open Go.RowKit

/-- A list of strings in memory; an empty one need lie nowhere. -/
def Strs (w : World) (ao : Option Addr) (ps : List ByteArray) : Prop :=
  0 < ps.length → ∃ b off, ao = some ⟨b, off, none⟩ ∧ b < w.heap.size ∧ ∀ i, i < ps.length → w.cell? ⟨b, off + i, none⟩ = some (.string (ps.getD i .empty))
theorem Strs.below {w w' : World} {ao : Option Addr} {ps : List ByteArray} (h : Strs w ao ps) (hb : Below w.heap.size w w') : Strs w' ao ps := by
  intro h0
  obtain ⟨b, off, h1, h2, h3⟩ := h h0
  exact ⟨b, off, h1, Nat.lt_of_lt_of_le h2 hb.size, fun i hi => (hb.cell (p := ⟨b, off + i, none⟩) h2).trans (h3 i hi)⟩

/-- A sieve: its block, its table, from block 'base' on. -/
structure SieveAt (w : World) (base sb tb mb nb cap wd n : Nat) (T : Tb) : Prop where
  head : Blk w sb 87 #[.int .i64 (wd : Int), .int .i64 (n : Int), .pointer (some ⟨tb, 0, none⟩)]
  tab : TabAt w base tb mb nb cap T
  b0 : base ≤ sb

def wdOf (ps : List ByteArray) : Nat := (ps.headD .empty).size
def lenOk (ps : List ByteArray) (p : ByteArray) : Prop := p.size = wdOf ps ∧ 1 ≤ wdOf ps ∧ wdOf ps ≤ 64
/-- What New says: the error, or the table. -/
inductive NewOut (ps : List ByteArray) : Nat → Option Tb → Prop where
  | long : 4096 < ps.length → NewOut ps 1 none
  | pattern : ps.length ≤ 4096 → (∃ i, i < ps.length ∧ ¬ lenOk ps (ps.getD i .empty)) → NewOut ps 50 none
  | twice : ps.length ≤ 4096 → (∀ i, i < ps.length → lenOk ps (ps.getD i .empty)) → addAll Tb0 0 (ps.map bts) = none → NewOut ps 51 none
  | ok {T T' : Tb} : ps.length ≤ 4096 → (∀ i, i < ps.length → lenOk ps (ps.getD i .empty)) → addAll Tb0 0 (ps.map bts) = some T → Good T → T.nodes.length ≤ 262145 → Lk T (levs T T.nodes.length).flatten T' → WF T' → Tree T' → T'.nodes.length = T.nodes.length → NewOut ps 0 (some T')
def NewPost (ps : List ByteArray) (w : World) (e : Ending) (w' : World) : Prop :=
  Below w.heap.size w w' ∧ ∃ er o, NewOut ps er o ∧ match o with
    | none => e = .returned (.tuple #[.pointer none, .int .i64 (er : Int)])
    | some T => ∃ sb tb mb nb cap, e = .returned (.tuple #[.pointer (some ⟨sb, 0, none⟩), .int .i64 0]) ∧ SieveAt w' w.heap.size sb tb mb nb cap (wdOf ps) ps.length T

theorem sieve_new {w w1 : World} {tb mb nb cap0 wd n : Nat} {T : Tb} (HT : TabAt w1 w.heap.size tb mb nb cap0 T) (HB : Below w.heap.size w w1) :
    SieveAt (w1.alloc (.cells #[.int .i64 (wd : Int), .int .i64 (n : Int), .pointer (some ⟨tb, 0, none⟩)] 87)) w.heap.size w1.heap.size tb mb nb cap0 wd n T :=
  ⟨Blk.new, HT.below ((Below.refl _ w1).alloc (Nat.le_refl _) _), HB.size⟩
/-- The adding of the patterns: what has come, what is left. -/
def NwRel (w : World) (sb tb mb wd n : Nat) (ps : List ByteArray) (j : Nat) (wr : World) : Prop :=
  ∃ T nb cap, addAll Tb0 0 (ps.map bts) = addAll T j ((ps.map bts).drop j) ∧ SieveAt wr w.heap.size sb tb mb nb cap wd n T ∧ Below w.heap.size w wr ∧ Good T ∧ T.nodes.length ≤ 1 + j * 64
theorem SieveAt.below {w w' : World} {base sb tb mb nb cap wd n : Nat} {T : Tb} (h : SieveAt w base sb tb mb nb cap wd n T) (hb : Below w.heap.size w w') : SieveAt w' base sb tb mb nb cap wd n T :=
  ⟨h.head.below hb h.head.lt, h.tab.below hb, h.b0⟩
theorem SieveAt.turn {w w' : World} {base sb tb mb nb cap nb' cap' wd n : Nat} {T T' : Tb} (h : SieveAt w base sb tb mb nb cap wd n T) (ho : Oth w w') (ht : TabAt w' base tb mb nb' cap' T') : SieveAt w' base sb tb mb nb' cap' wd n T' :=
  ⟨(ho sb _ 87 _ h.head (by decide) (by decide)).trans h.head, ht, h.b0⟩
/-- '[]byte(s)': the bytes in a block of their own. -/
theorem conv_bytes (w : World) (s : ByteArray) : ∃ c w2, (convert 9 27 (.string s)).run Try.prog w = .ok (.slice (some ⟨w.heap.size, 0, none⟩) s.size c) w2 ∧ SrcB w2 w.heap.size 0 (bts s) ∧ Below w.heap.size w w2 := by
  refine ⟨_, _, run_bytes_of_string w 9 27 5 s Try.underlying9 Try.underlying27 Try.underlying5, ?_, (Below.refl _ w).drew.alloc (Nat.le_refl _) _⟩
  refine ⟨_, _, by show (w.heap.push _)[w.heap.size]? = _; simp; exact ⟨rfl, rfl⟩, fun i hi => ?_⟩
  have hi2 : i < s.size := by simpa [bts] using hi
  simp only [bytesRow, Nat.zero_add]
  rw [Array.getElem?_append_left (by simpa using hi2)]
  simp [bts, List.getD, hi2]

set_option maxRecDepth 100000 in
set_option maxHeartbeats 2000000 in
theorem new_any {w : World} (ao : Option Addr) (cap n : Nat) (ps : List ByteArray) (hn : ps.length = n) (hs : Strs w ao ps) :
    Calls Try.prog 37 #[.slice ao n cap] w (NewPost ps w) := by
  by_cases hlong : 4096 < n
  · have hpost := Lib.hid (show NewPost ps w (.returned (.tuple #[.pointer none, .int .i64 ((1 : Nat) : Int)])) w from ⟨Below.refl _ _, 1, none, .long (by omega), rfl⟩)
    go_enter Try.func37, Try.ntmps37
    go_wp2
    go_ret2
    exact hpost.out
  · have hS := Lib.hid hs
    obtain ⟨wd, hwd⟩ : ∃ wd, wdOf ps = wd := ⟨_, rfl⟩
    clear hs
    go_enter Try.func37, Try.ntmps37
    go_upto_if 19 with (go_at_call 66; refine (newTable_any _).mono ?_; rintro e w1 ⟨tb, mb, nb, cap0, rfl, hTab, hBel⟩; have HT := Lib.hid hTab; have HB := Lib.hid hBel; clear hTab hBel)
    go_cut [] (fun wx => SieveAt wx w.heap.size w1.heap.size tb mb nb cap0 wd n Tb0 ∧ Below w.heap.size w wx)
    case first =>
      by_cases h0 : n = 0
      · subst h0
        go_wp2
        go_meet
        obtain rfl : ps = [] := List.length_eq_zero_iff.1 hn
        obtain rfl : 0 = wd := hwd
        exact ⟨sieve_new HT.out HB.out, HB.out.alloc HB.out.size _⟩
      · have hS1 := hS.out.below (HB.out.mono (Nat.le_refl _))
        obtain ⟨b, off, hao, hb, hc⟩ := hS1 (by omega)
        subst hao
        have c0 := hc 0 (by omega)
        rw [Nat.add_zero] at c0
        obtain ⟨s0, hs0⟩ : ∃ s0, ps.getD 0 .empty = s0 := ⟨_, rfl⟩
        rw [hs0] at c0
        clear hc
        go_wp2
        go_meet
        obtain rfl : s0.size = wd := by
          rw [← hs0, ← hwd]; cases ps <;> rfl
        exact ⟨sieve_new HT.out HB.out, HB.out.alloc HB.out.size _⟩
    case rest =>
      obtain ⟨hA0, hB0⟩ := hcut
      have HA := Lib.hid hA0
      have HB2 := Lib.hid hB0
      have SC := hS.out.below hB0
      have d0 := hA0.head.cell (i := 0) rfl
      have d2 := hA0.head.cell (i := 2) rfl
      clear hB0
      go_wp2
      go_loop [29] (fun i => ∃ j : Nat, j ≤ n ∧ i = .int .i64 (j : Int) ∧ ∀ i, i < j → lenOk ps (ps.getD i .empty)) (fun i => n - (intOf i).toNat)
      case atStart => exact ⟨0, by omega, rfl, fun i hi => absurd hi (Nat.not_lt_zero _)⟩
      case round =>
        obtain ⟨j, hj, rfl, hok⟩ := hrel
        by_cases hlt : j < n
        · obtain ⟨b, off, hao, hb, hc⟩ := SC (by omega)
          subst hao
          have cj := hc j (by omega)
          obtain ⟨s0, hs0⟩ : ∃ s0, ps.getD j .empty = s0 := ⟨_, rfl⟩
          rw [hs0] at cj
          have OK := Lib.hid hok
          clear hc hok SC
          by_cases hl : s0.size = wd ∧ 1 ≤ wd ∧ wd ≤ 64
          · have hok2 := Lib.hid (show lenOk ps (ps.getD j .empty) by rw [hs0]; unfold lenOk; rw [hwd]; exact hl)
            obtain ⟨rfl, hl1, hl2⟩ := hl
            clear hs0 hwd
            go_wp2
            go_round
            case rel =>
              refine ⟨j + 1, by omega, by go_num, fun i hi => ?_⟩
              by_cases e : i = j
              · subst e; exact hok2.out
              · exact OK.out i (by omega)
            case measure => simp [intOf]; omega
          · have hpost := Lib.hid (show NewPost ps w (.returned (.tuple #[.pointer none, .int .i64 ((50 : Nat) : Int)])) wc from ⟨HB2.out, 50, none, .pattern (by omega) ⟨j, by omega, by rw [hs0]; unfold lenOk; rw [hwd]; exact hl⟩, rfl⟩)
            clear hs0 hwd
            go_wp2
            all_goals go_ret2
            all_goals exact hpost.out
        · obtain rfl : j = n := by omega
          have OK := Lib.hid hok
          have HTg := HA.out.tab.b1
          clear hok
          go_wp2
          go_loopw [57] (fun i wr => ∃ q : Nat, q ≤ j ∧ i = .int .i64 (q : Int) ∧ NwRel w w1.heap.size tb mb wd j ps q wr) (fun i _ => j - (intOf i).toNat)
          case atStart => exact ⟨0, by omega, rfl, Tb0, nb, cap0, rfl, HA.out, HB2.out, Good.tb0, by decide⟩
          case round =>
            obtain ⟨q, hq, rfl, T, nb1, cap1, hT, hA, hB, hG, hL⟩ := hrel
            have hSr := hS.out.below (hB.mono (Nat.le_refl _))
            have d2 := hA.head.cell (i := 2) rfl
            by_cases hlt : q < j
            · obtain ⟨b, off, hao, hb, hc⟩ := hSr (by omega)
              subst hao
              have cj := hc q (by omega)
              obtain ⟨s0, hs0⟩ : ∃ s0, ps.getD q .empty = s0 := ⟨_, rfl⟩
              rw [hs0] at cj
              have hlk := OK.out q hlt
              rw [hs0] at hlk
              obtain ⟨l1, l2, l3⟩ := hlk
              rw [hwd] at l1 l2 l3
              have hdrop : (ps.map bts).drop q = bts s0 :: (ps.map bts).drop (q + 1) := by
                rw [List.drop_eq_getElem_cons (by simp; omega)]
                congr 1
                have : ps.getD q .empty = ps[q]'(by omega) := by simp [List.getD, show q < ps.length by omega]
                rw [List.getElem_map, ← this, hs0]
              obtain ⟨c, w2, hcv, hsrc, hbw⟩ := conv_bytes wr s0
              have hA2 := hA.below hbw
              have hB2 := hB.trans (hbw.mono hB.size)
              have hbl : ∀ i, (bts s0).getD i 0 < 256 := by
                intro i
                by_cases hi : i < (bts s0).length
                · simp only [List.getD, List.getElem?_eq_getElem hi, Option.getD_some]; exact bts_lt s0 _ (List.getElem_mem hi)
                · simp [List.getD, List.getElem?_eq_none (show (bts s0).length ≤ i by omega)]
              have hadd := add_any hA2.tab wr.heap.size 0 c s0.size (bts s0) q (bts_len s0) (hG.fits (by omega) (by omega)) hbl (by omega) hsrc hB2.size
              rw [hdrop] at hT
              have HN := Lib.hid (show ∀ R ok w3, T.out (bts s0) q = (R, ok) → Below w.heap.size w2 w3 → Oth w2 w3 → (∃ nb cap, TabAt w3 w.heap.size tb mb nb cap R) → (ok = false → NewPost ps w (.returned (.tuple #[.pointer none, .int .i64 ((51 : Nat) : Int)])) w3) ∧ (ok = true → NwRel w w1.heap.size tb mb wd j ps (q + 1) w3) from by
                intro R ok w3 ho hb3 hoth ⟨nb3, cap3, ht3⟩
                have hB3 := hB2.trans hb3
                refine ⟨fun e => ?_, fun e => ?_⟩ <;> subst e
                · exact ⟨hB3, 51, none, .twice (by omega) (fun i hi => OK.out i (by omega)) (by rw [hT]; simp only [addAll, ho]), rfl⟩
                · obtain ⟨g1, g2⟩ := hG.out (bts_lt s0) (by rw [bts_len]; omega) (by rw [bts_len]; omega) (by omega) ho
                  rw [bts_len] at g2
                  exact ⟨R, nb3, cap3, by rw [hT]; simp only [addAll, ho], hA2.turn hoth ht3, hB3, g1, by omega⟩)
              have HAD := Lib.hid hadd
              clear hc hSr hT hA hB hG hL hdrop hsrc hbw hA2 hB2 hbl hadd hs0 l1 l2 l3
              go_wp2_with (go_at_call 67; refine HAD.out.mono ?_; rintro e w3 ⟨R, ok, ho, rfl, hb3, hoth, ht3⟩; have HN3 := Lib.hid (HN.out R ok w3 ho hb3 hoth ht3); clear ho hb3 hoth ht3)
              · go_ret2
                refine HN3.out.1 ?_
                first | assumption | simp_all
              · go_roundw
                case rel => exact ⟨q + 1, by omega, by go_num, HN3.out.2 (by first | assumption | simp_all)⟩
                case measure => simp [intOf]; omega
            · obtain rfl : q = j := by omega
              have hadd : addAll Tb0 0 (ps.map bts) = some T := by rw [hT, List.drop_of_length_le (by simp; omega)]; rfl
              have hmx : T.nodes.length ≤ 262145 := by omega
              have hlink := link_any hA.tab (hG.wf hmx) hG.tree hB.size
              have HN := Lib.hid (show ∀ T' w3, Lk T (levs T T.nodes.length).flatten T' → TabAt w3 w.heap.size tb mb nb1 cap1 T' → WF T' → Tree T' → T'.nodes.length = T.nodes.length → Below w.heap.size wr w3 → Oth wr w3 → NewPost ps w (.returned (.tuple #[.pointer (some ⟨w1.heap.size, 0, none⟩), .int .i64 0])) w3 from
                fun T' w3 hk ht hw htr hl hb ho => ⟨hB.trans hb, 0, some T', .ok (by omega) (fun i hi => OK.out i (by omega)) hadd hG hmx hk hw htr hl, w1.heap.size, tb, mb, nb1, cap1, rfl, by rw [hwd, hn]; exact hA.turn ho ht⟩)
              have HLK := Lib.hid hlink
              clear hSr hT hA hB hG hL hadd hlink hmx
              go_wp2_with (go_at_call 68; refine HLK.out.mono ?_; rintro e w3 ⟨rfl, T', k1, k2, k3, k4, k5, k6, k7⟩; have HN3 := Lib.hid (HN.out T' w3 k1 k2 k3 k4 k5 k6 k7); clear k1 k2 k3 k4 k5 k6 k7)
              go_ret2
              exact HN3.out
end Go.Proofs.Ythkaicbkcaiffaa
