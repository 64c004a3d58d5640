/-
  Proved: PressCrcs (graftlaw4): for every five arguments the law returns true, the package's table of sixteen words reading as the program's text lays it; the card ties that table to the text. Conditions: none beyond the row's own ('laid').
-/
import Derived.Test.YtcddcodambeljaaDoorCards
import Derived.Test.YtcddcodambeljaaDoorTie
import Derived.Test.YtcddcodambeljaaDoorZ
import Derived.Test.YtcddcodambeljaaDoorP
import Derived.Deep.DeepHandedRow
import Derived.Lib.LaidTab
namespace Go.Proofs.YtcddcodambeljaaDoor.pressCrcs
open Go.ChangeShapes Go.WideShapes Go.ChangeAt Go.RowKit

theorem own : ownKnob Tryd.prog.godebug = none := by kernel_rfl
theorem laidOut : laidOutB Tryd.prog = true := by kernel_rfl
theorem gTab : Tryd.prog.globalNamed "graft/press.halves" = some 0 := by kernel_rfl
theorem gTabType : (Tryd.prog.globals[0]?).map (·.type) = some 27 := by kernel_rfl
theorem cells27 : Tryd.prog.cellsOf 27 = 16 := by kernel_rfl
theorem cells23 : Tryd.prog.cellsOf 23 = 1 := by kernel_rfl
theorem cells5 : Tryd.prog.cellsOf 5 = 1 := by kernel_rfl

/-- What the row's list gives: the table's cells hold its sixteen numbers. -/
theorem table {W : World} (h : laidMetH Tryd.prog Rows.pressCrcsRow.laid W) : Lib.TabIs Tryd.prog W "graft/press.halves" .u32 [0, 498536548, 997073096, 651767980, 1994146192, 1802195444, 1303535960, 1342533948, 3988292384, 4027552580, 3604390888, 3412177804, 2607071920, 2262029012, 2685067896, 3183342108] :=
  Lib.tabIs_of_head (rest := []) gTab gTabType Tryd.underlying27 Tryd.underlying23 cells23 cells27 h
theorem tab_eq : ∀ i, i < 16 → ([0, 498536548, 997073096, 651767980, 1994146192, 1802195444, 1303535960, 1342533948, 3988292384, 4027552580, 3604390888, 3412177804, 2607071920, 2262029012, 2685067896, 3183342108] : List Int).getD i 0 = (halves.getD i 0 : Nat) := by decide
theorem tableAt {W : World} (h : laidMetH Tryd.prog Rows.pressCrcsRow.laid W) : TableAt W := by
  intro i hi
  have := (table h).cell gTab i hi
  rw [this]
  congr 2
  exact tab_eq i hi

theorem sized_cons {H : Type} {P : Program} {t : TypeId} {ts : List TypeId} {d : DataW H} {ds : List (DataW H)} (h : (DataW.weightsEach P (t :: ts) (d :: ds)).all (· ≤ reachBytes) = true) :
    (∀ x ∈ d.weights P t, x ≤ reachBytes) ∧ (DataW.weightsEach P ts ds).all (· ≤ reachBytes) = true := by
  simp only [DataW.weightsEach, List.all_append, Bool.and_eq_true] at h
  exact ⟨fun x hx => by simpa using List.all_eq_true.1 h.1 x hx, h.2⟩

theorem bytes5 : Tryd.prog.bytesOf 5 = 1 := by kernel_rfl
theorem wf_u8 {n : Int} (h : (Lit.int .u8 n).wf = true) : 0 ≤ n ∧ n < 256 := by
  simp [Lit.wf, IntKind.min, IntKind.max, IntKind.signed, IntKind.bits] at h; omega

/-- A slice of bytes as the walks want it. -/
theorem open_bytes {H : Type} {enc : TypeId × Value → H} {W : World} {v : Value} {d : DataW H} {p : List MemPlace} (hok : Value.okWide Tryd.prog W .any 0 22 v) (h : DataW.Trod enc Tryd.prog W 0 (fun _ => true) true 22 v d p)
    (hreach : ∀ x ∈ d.weights Tryd.prog 22, x ≤ reachBytes) :
    ∃ (ao : Option Addr) (n cap : Nat), v = .slice ao n cap ∧ n ≤ 140737488351232 ∧ (ao = none → cap = 0) ∧ (0 < n → ∃ b off l, ao = some ⟨b, off, none⟩ ∧ In W b off n cap l) := by
  obtain ⟨a0, len, cap, rfl⟩ := okWide_slice Tryd.underlying22 hok
  obtain ⟨fuel, hf⟩ := h
  rcases open_ints Tryd.underlying22 Tryd.underlying5 cells5 hf with ⟨hcs, hx⟩ | ⟨a, len', cap', zs, hcs, _, hl, hm, hz, hx, hcell, hwz⟩
  · obtain ⟨rfl, rfl, rfl⟩ : a0 = none ∧ len = 0 ∧ cap = 0 := by simpa [Value.cells] using hcs
    exact ⟨none, 0, 0, rfl, by omega, fun _ => rfl, fun h => absurd h (by omega)⟩
  · obtain ⟨rfl, rfl, rfl⟩ : a0 = some a ∧ len = len' ∧ cap = cap' := by simpa [Value.cells] using hcs
    have hzl : zs.length = cap := by simpa using hz
    have hn : len ≤ 140737488351232 := by
      obtain ⟨rfl, _⟩ := Prod.mk.inj hx
      have := hreach ((lits .u8 (zs.take len) : List (DataW H)).length + (lits .u8 (zs.drop len) : List (DataW H)).length) (by simp [DataW.weights, Tryd.underlying22, bytes5])
      simp [lits, reachBytes] at this
      omega
    refine ⟨some a, len, cap, rfl, hn, (fun h => by cases h), fun h0 => ?_⟩
    obtain ⟨b, off, rfl, hc⟩ := ints_at hcell (by omega)
    have hb : ∀ i, i < zs.length → 0 ≤ zs.getD i 0 ∧ zs.getD i 0 < 256 := fun i hi => wf_u8 (hwz _ (by simp [List.getD, hi]))
    refine ⟨b, off, (zs.take len).map Int.toNat, rfl, by simp; omega, hl, hn, ?_, ?_, ?_⟩
    · intro i
      by_cases hi : i < len
      · have := hb i (by omega)
        simp [List.getD, hi, show i < zs.length by omega] at this ⊢
        omega
      · simp only [List.getD]; rw [List.getElem?_eq_none (by simp; omega)]; decide
    · intro i hi
      have hi2 : i < len ∧ i < zs.length := by simpa [Nat.lt_min] using hi
      have h1 := hb i hi2.2
      rw [hc i hi2.2]
      congr 2
      simp [List.getD, hi2.1, hi2.2] at h1 ⊢
      omega
    · have := hc 0 (by omega)
      by_cases hb2 : b < W.heap.size
      · exact hb2
      · unfold World.cell? at this; simp [Array.getElem?_eq_none (show W.heap.size ≤ b by omega)] at this

/-- The law, for every arguments. -/
theorem law_any (a0 a1 a2 : Option Addr) (n0 c0 n1 c1 n2 c2 : Nat) (at_ : Int) (burst : Nat) (W : World) (h0 : n0 ≤ 140737488351232) (h1 : n1 ≤ 140737488351232) (h2 : n2 ≤ 140737488351232)
    (K0 : a0 = none → c0 = 0) (K1 : a1 = none → c1 = 0) (K2 : a2 = none → c2 = 0) (T : TableAt W) (hT : 0 < W.heap.size) (hb : burst < 4294967296)
    (i0 : 0 < n0 → ∃ b off l, a0 = some ⟨b, off, none⟩ ∧ In W b off n0 c0 l) (i1 : 0 < n1 → ∃ b off l, a1 = some ⟨b, off, none⟩ ∧ In W b off n1 c1 l) (i2 : 0 < n2 → ∃ b off l, a2 = some ⟨b, off, none⟩ ∧ In W b off n2 c2 l) :
    Calls Tryd.prog 3 #[.slice a0 n0 c0, .slice a1 n1 c1, .slice a2 n2 c2, .int .i64 at_, .int .u32 burst] W fun e w' => e = .returned (.bool true) ∧ Below W.heap.size W w' := by
  by_cases hz : min (min n0 n1) n2 = 0
  · exact Zero.law_zero a0 a1 a2 n0 c0 n1 c1 n2 c2 at_ burst W h0 h1 h2 hz K0 K1 K2 T hT
  · obtain ⟨b0, o0, l0, rfl, I0⟩ := i0 (by omega)
    obtain ⟨b1, o1, l1, rfl, I1⟩ := i1 (by omega)
    obtain ⟨b2, o2, l2, rfl, I2⟩ := i2 (by omega)
    exact law_some b0 o0 n0 c0 b1 o1 n1 c1 b2 o2 n2 c2 l0 l1 l2 at_ burst W I0 I1 I2 T hb hT

theorem contract (H : Type) (enc : TypeId × Value → H) (W : World) (args : Array Value) (ds gs : List (DataW H)) (before : List MemPlace)
    (hval : ∀ (j : Nat) t v, Tryd.f3.params[j]? = some t → args[j]? = some v → Value.okWide Tryd.prog W .any 0 t v)
    (hW : DataW.Whole enc Tryd.prog Tryd.f3.params.toList Rows.pressCrcsSpec.vars false W args.toList ds gs before)
    (hsz : (DataW.weightsEach Tryd.prog (Tryd.f3.params.toList ++ (OpenSpec.ofChange Rows.pressCrcsSpec).bare.plain.varTypes Tryd.prog) (ds ++ gs)).all (· ≤ reachBytes) = true) (hL : laidMetH Tryd.prog Rows.pressCrcsRow.laid W) :
    Calls Tryd.prog 3 args W fun e W' => ∃ v, e = .returned v ∧ Rows.pressCrcsSpec.post enc Tryd.prog Tryd.f3 false true false false W args v W' := by
  have hW' := hW
  obtain ⟨p, q, hA0, hV, rfl, hfz, hnd⟩ := hW
  have hA : DataW.TrodAll enc Tryd.prog W 0 (fun _ => true) true Tryd.f3.params.toList args.toList ds p := hA0
  rw [Tryd.params3] at hA hval hsz
  obtain ⟨v0, vs0, d0, ds0, p0, q0, hargs, rfl, rfl, h0, r0⟩ := trodAll_cons hA
  obtain ⟨v1, vs1, d1, ds1, p1, q1, rfl, rfl, rfl, h1, r1⟩ := trodAll_cons r0
  obtain ⟨v2, vs2, d2, ds2, p2, q2, rfl, rfl, rfl, h2, r2⟩ := trodAll_cons r1
  obtain ⟨v3, vs3, d3, ds3, p3, q3, rfl, rfl, rfl, h3, r3⟩ := trodAll_cons r2
  obtain ⟨v4, vs4, d4, ds4, p4, q4, rfl, rfl, rfl, h4, r4⟩ := trodAll_cons r3
  obtain ⟨rfl, rfl, rfl⟩ := trodAll_nil r4
  obtain rfl : args = #[v0, v1, v2, v3, v4] := by cases args; simp_all
  obtain ⟨rfl, rfl⟩ := trodVars_none hV
  obtain ⟨s0, hsz⟩ := sized_cons hsz
  obtain ⟨s1, hsz⟩ := sized_cons hsz
  obtain ⟨s2, hsz⟩ := sized_cons hsz
  obtain ⟨a0, n0, c0, rfl, m0, k0, i0⟩ := open_bytes (hval 0 22 v0 rfl rfl) h0 s0
  obtain ⟨a1, n1, c1, rfl, m1, k1, i1⟩ := open_bytes (hval 1 22 v1 rfl rfl) h1 s1
  obtain ⟨a2, n2, c2, rfl, m2, k2, i2⟩ := open_bytes (hval 2 22 v2 rfl rfl) h2 s2
  obtain ⟨at_, rfl, rfl, rfl, w3⟩ := open_int Tryd.underlying3 (hval 3 3 v3 rfl rfl) h3
  obtain ⟨bu, rfl, rfl, rfl, w4⟩ := open_int Tryd.underlying23 (hval 4 23 v4 rfl rfl) h4
  obtain ⟨burst, hb, rfl⟩ : ∃ burst : Nat, burst < 4294967296 ∧ bu = (burst : Int) := by
    have : 0 ≤ bu ∧ bu < 4294967296 := by simp [Lit.wf, IntKind.min, IntKind.max, IntKind.signed, IntKind.bits] at w4; omega
    exact ⟨bu.toNat, by omega, by omega⟩
  have T := tableAt hL
  have hT : 0 < W.heap.size := by
    have := T 0 (by decide)
    by_cases hb2 : 0 < W.heap.size
    · exact hb2
    · unfold World.cell? at this; simp [Array.getElem?_eq_none (show W.heap.size ≤ 0 by omega)] at this
  refine (law_any a0 a1 a2 n0 c0 n1 c1 n2 c2 at_ burst W m0 m1 m2 k0 k1 k2 T hT hb i0 i1 i2).mono fun e W' ⟨he, hg⟩ => ?_
  subst he
  exact ⟨_, rfl, post_true laidOut (by kernel_rfl) (tb := 4) (by kernel_rfl) Tryd.underlying4 rfl hW' rfl rfl rfl hg⟩

/-- A world for the witness: the settled one, the table (block 0) holding what its initialiser lays. -/
noncomputable def laidWorld (os : Os) : World :=
  { World.holding Tryd.prog os ⟨#[], #[], []⟩ with heap := (World.holding Tryd.prog os ⟨#[], #[], []⟩).heap.modify 0 fun
      | .cells _ t frozen => .cells #[.int .u32 0, .int .u32 498536548, .int .u32 997073096, .int .u32 651767980, .int .u32 1994146192, .int .u32 1802195444, .int .u32 1303535960, .int .u32 1342533948, .int .u32 3988292384, .int .u32 4027552580, .int .u32 3604390888, .int .u32 3412177804, .int .u32 2607071920, .int .u32 2262029012, .int .u32 2685067896, .int .u32 3183342108] t frozen
      | o => o }
def witArgs : Array Value := #[.slice none 0 0, .slice none 0 0, .slice none 0 0, .int .i64 0, .int .u32 0]
theorem laid_met (os : Os) : laidMet Tryd.prog Rows.pressCrcsRow.laid ((laidWorld os).forCall (fun _ _ => 0) ⟨#[], witArgs, []⟩).memory :=
  laidMet_of_run' 8 (by kernel_rfl) (by kernel_rfl)
theorem reads (os : Os) {H : Type} (enc : TypeId × Value → H) : ∃ places, DataW.whole enc Tryd.prog ((laidWorld os).forCall (fun _ _ => 0) ⟨#[], witArgs, []⟩).memory Tryd.f3.params.toList Rows.pressCrcsSpec.vars false witArgs.toList 8 = some ([.nil, .nil, .nil, .lit (.int .i64 0), .lit (.int .u32 0)], [], places) :=
  ⟨[], by kernel_rfl⟩

set_option maxRecDepth 100000 in
theorem lifted (os : Os) (started : os.Started) (H : Type) (enc : TypeId × Value → H) (F : Stop.Interp) :
    ReturnsInHanded {} Tryd.checked os 3 .any ((OpenSpec.ofChange Rows.pressCrcsSpec).preRow enc Tryd.prog Tryd.f3 Rows.pressCrcsRow.domain false Rows.pressCrcsRow.laid) (((OpenSpec.ofChange Rows.pressCrcsSpec).at F).post enc Tryd.prog Tryd.f3 false true false false) := by
  obtain ⟨places, hx⟩ := reads os enc
  refine returnsInHanded_of_row (C := Tryd.checked) (s := OpenSpec.ofChange Rows.pressCrcsSpec) own started (by kernel_rfl) Tryd.func3
    (witness_row_at (enc := enc) (C := Tryd.checked) false (laidWorld os) witArgs rfl (by kernel_rfl) (by kernel_rfl) (by kernel_rfl)
      (OpenSpec.preRow_of_cond 8 hx (by kernel_rfl) (fun k hk => by cases hk) (by kernel_rfl) (laid_met os))) ?_
  intro W base args ds gs before hval hW _ _ hsz hL _ _
  exact contract H enc W args ds gs before hval hW hsz hL

theorem said : Rows.PressCrcsSaid :=
  OpenClaim.holds_of_cond 3 Tryd.f3 rfl rfl rfl rfl rfl rfl rfl ⟨rfl, rfl, rfl, rfl, rfl⟩ rfl rfl rfl rfl rfl (by kernel_rfl) Tryd.func3 (by kernel_rfl)
    (of_decide_eq_true (by kernel_rfl)) (by unfold Func.isWrapper; first | (rw [if_pos (by decide +kernel)]; kernel_rfl) | (rw [if_neg (by decide +kernel)]; exact ⟨rfl, rfl⟩))
    (fun os started H enc _ F => by rw [OpenClaim.pre_eq_preRow]; exact lifted os started H enc F)

theorem plain (f : FuncId) (fn : Func) (hf : Tryd.pinned.checked.prog.funcNamed "graft/graftlaw4.PressCrcs" = some f) (hfn : Tryd.pinned.checked.prog.funcs[f]? = some fn) :
    false = Tryd.pinned.checked.prog.looks [] ∧ ∀ (j : Nat) t, fn.params[j]? = some t → Tryd.pinned.checked.prog.wantsStandIn t = false := by
  obtain rfl : f = 3 := Option.some.inj ((show Tryd.prog.funcNamed "graft/graftlaw4.PressCrcs" = some 3 by kernel_rfl).symm.trans hf) |>.symm
  obtain rfl : fn = Tryd.f3 := (Option.some.inj (Tryd.func3.symm.trans hfn)).symm
  refine ⟨by kernel_rfl, fun j t ht => ?_⟩
  rw [Tryd.params3] at ht
  have : t = 22 ∨ t = 3 ∨ t = 23 := by have := Array.mem_of_getElem? ht; simp at this; omega
  rcases this with rfl | rfl | rfl
  · exact (show Tryd.prog.wantsStandIn 22 = false by kernel_rfl)
  · exact (show Tryd.prog.wantsStandIn 3 = false by kernel_rfl)
  · exact (show Tryd.prog.wantsStandIn 23 = false by kernel_rfl)

/-- The card. -/
theorem card : Rows.PressCrcsCardSaid :=
  Claim7.holds_tied_plain_at .later [] _ _ _ _ said (fun _ h => by cases h) (by kernel_rfl) (fun _ h => by cases h) pressCrcs_row_tie rfl ⟨rfl, rfl⟩ (by kernel_rfl) rfl plain (by kernel_rfl)
#print axioms card
end Go.Proofs.YtcddcodambeljaaDoor.pressCrcs
