/-
  Proved: SieveOverlaps (graftlaw5): for every list of hits and every width the law returns true. Conditions: none.
-/
import Derived.Test.YthkaicbkcaiffaaRows
import Derived.Test.YthkaicbkcaiffaaOz
import Derived.Test.YthkaicbkcaiffaaP
import Derived.Deep.DeepHandedRow
import Derived.Deep.SlicePairs
namespace Go.Proofs.Ythkaicbkcaiffaa.sieveOverlaps
open Go.ChangeShapes Go.WideShapes Go.ChangeAt Go.RowKit

theorem own : ownKnob Try.prog.godebug = none := by kernel_rfl
theorem laidOut : laidOutB Try.prog = true := by kernel_rfl
theorem sized_cons {H : Type} {P : Program} {t : TypeId} {ts : List TypeId} {d : DataW H} {ds : List (DataW H)} (h : (DataW.weightsEach P (t :: ts) (d :: ds)).all (· ≤ reachBytes) = true) :
    (∀ x ∈ d.weights P t, x ≤ reachBytes) ∧ (DataW.weightsEach P ts ds).all (· ≤ reachBytes) = true := by
  simp only [DataW.weightsEach, List.all_append, Bool.and_eq_true] at h
  exact ⟨fun x hx => by simpa using List.all_eq_true.1 h.1 x hx, h.2⟩
theorem bytes44 : Try.prog.bytesOf 44 = 16 := by kernel_rfl
theorem cells44 : Try.prog.cellsOf 44 = 2 := by kernel_rfl
theorem cells3 : Try.prog.cellsOf 3 = 1 := by kernel_rfl
theorem wf_in64 {n : Int} (h : (Lit.int .i64 n).wf = true) : in64 n := by
  unfold in64; simp [Lit.wf, IntKind.min, IntKind.max, IntKind.signed, IntKind.bits] at h; omega
set_option maxRecDepth 100000 in
/-- A list of hits as the walks want it. -/
theorem open_hits {H : Type} {enc : TypeId × Value → H} {W : World} {v : Value} {d : DataW H} {p : List MemPlace} (hok : Value.okWide Try.prog W .any 0 22 v) (h : DataW.Trod enc Try.prog W 0 (fun _ => true) true 22 v d p)
    (hreach : ∀ x ∈ d.weights Try.prog 22, x ≤ reachBytes) :
    ∃ (ao : Option Addr) (n cap : Nat), v = .slice ao n cap ∧ n * 16 ≤ 140737488351232 ∧ (0 < n → ∃ b off A Wh, ao = some ⟨b, off, none⟩ ∧ Hits W b off n A Wh ∧ b < W.heap.size) := by
  obtain ⟨a0, len, cap, rfl⟩ := okWide_slice Try.underlying22 hok
  obtain ⟨fuel, hf⟩ := h
  rcases Go.Deep.open_slice_pairs Try.underlying22 Try.underlying44 cells44 rfl rfl cells3 cells3 hf with ⟨hcs, hx⟩ | ⟨a, len', cap', m, n, V0, V1, D0, D1, P0, P1, hcs, _, hl, hm, hmm, hx, hcell⟩
  · obtain ⟨rfl, rfl, rfl⟩ : a0 = none ∧ len = 0 ∧ cap = 0 := by simpa [Value.cells] using hcs
    exact ⟨none, 0, 0, rfl, by simp, fun h => absurd h (Nat.lt_irrefl 0)⟩
  · obtain ⟨rfl, rfl, rfl⟩ : a0 = some a ∧ len = len' ∧ cap = cap' := by simpa [Value.cells] using hcs
    have hm2 : m = cap := by simpa using hmm
    have hn : len * 16 ≤ 140737488351232 := by
      obtain ⟨rfl, _⟩ := Prod.mk.inj hx
      have := hreach _ (by simp only [DataW.weights, Try.underlying22]; exact List.mem_cons_self)
      simp [reachBytes, bytes44] at this
      omega
    refine ⟨some a, len, cap, rfl, hn, fun h0 => ?_⟩
    obtain ⟨b, off, spot⟩ := a
    have hspot : spot = none := by simpa [Addr.add] using World.cell?_spot (hcell 0 (by omega)).1
    subst hspot
    have hadd : ∀ j, (⟨b, off, none⟩ : Addr).add j = ⟨b, off + j, none⟩ := fun j => by unfold Addr.add; split <;> simp_all
    have hv : ∀ i, i < m → ∃ q : Int × Int, W.cell? ⟨b, off + i * 2, none⟩ = some (.int .i64 q.1) ∧ W.cell? ⟨b, off + i * 2 + 1, none⟩ = some (.int .i64 q.2) ∧ in64 q.1 := by
      intro i hi
      obtain ⟨h1, h2, t0, t1⟩ := hcell i hi
      obtain ⟨x, e0, _, wx⟩ := DataW.trod_int Try.underlying3 t0
      obtain ⟨y, e1, _, _⟩ := DataW.trod_int Try.underlying3 t1
      simp only [List.cons.injEq, and_true] at e0 e1
      rw [hadd, e0] at h1
      rw [hadd, e1] at h2
      exact ⟨(x, y), h1, h2, wf_in64 wx⟩
    obtain ⟨q, hq⟩ := Go.Deep.choose_lt hv
    refine ⟨b, off, fun i => (q i).1, fun i => (q i).2, rfl, ⟨fun i hi => (hq i (by omega)).1, fun i hi => (hq i (by omega)).2.1, fun i hi => (hq i (by omega)).2.2⟩, ?_⟩
    have := (hq 0 (by omega)).1
    by_cases hb2 : b < W.heap.size
    · exact hb2
    · unfold World.cell? at this; simp [Array.getElem?_eq_none (show W.heap.size ≤ b by omega)] at this

set_option maxRecDepth 100000 in
theorem contract (H : Type) (enc : TypeId × Value → H) (W : World) (args : Array Value) (ds gs : List (DataW H)) (before : List MemPlace)
    (hval : ∀ (j : Nat) t v, Try.f3.params[j]? = some t → args[j]? = some v → Value.okWide Try.prog W .any 0 t v)
    (hW : DataW.Whole enc Try.prog Try.f3.params.toList Rows.sieveOverlapsSpec.vars false W args.toList ds gs before)
    (hsz : (DataW.weightsEach Try.prog (Try.f3.params.toList ++ (OpenSpec.ofChange Rows.sieveOverlapsSpec).bare.plain.varTypes Try.prog) (ds ++ gs)).all (· ≤ reachBytes) = true) :
    Calls Try.prog 3 args W fun e W' => ∃ v, e = .returned v ∧ Rows.sieveOverlapsSpec.post enc Try.prog Try.f3 false true false false W args v W' := by
  have hW' := hW
  obtain ⟨p, q, hA0, hV, rfl, hfz, hnd⟩ := hW
  have hA : DataW.TrodAll enc Try.prog W 0 (fun _ => true) true Try.f3.params.toList args.toList ds p := hA0
  rw [Try.params3] at hA hval hsz
  obtain ⟨v0, vs0, d0, ds0, p0, q0, hargs, rfl, rfl, h0, r0⟩ := trodAll_cons hA
  obtain ⟨v1, vs1, d1, ds1, p1, q1, rfl, rfl, rfl, h1, r1⟩ := trodAll_cons r0
  obtain ⟨rfl, rfl, rfl⟩ := trodAll_nil r1
  obtain rfl : args = #[v0, v1] := by cases args; simp_all
  obtain ⟨rfl, rfl⟩ := trodVars_none hV
  obtain ⟨s0, hsz⟩ := sized_cons hsz
  obtain ⟨a0, n0, c0, rfl, m0, i0⟩ := open_hits (hval 0 22 v0 rfl rfl) h0 s0
  obtain ⟨wd, rfl, rfl, rfl, w1⟩ := open_int Try.underlying3 (hval 1 3 v1 rfl rfl) h1
  have key : Calls Try.prog 3 #[.slice a0 n0 c0, .int .i64 wd] W fun e w' => e = .returned (.bool true) ∧ Below W.heap.size W w' := by
    by_cases hz : n0 = 0
    · subst hz; exact law_zero a0 c0 wd W
    · obtain ⟨b, off, A, Wh, rfl, hH, hb⟩ := i0 (by omega)
      exact law_some b off n0 c0 A Wh wd W (by omega) m0 (wf_in64 w1) hH hb
  refine key.mono fun e W' ⟨he, hg⟩ => ?_
  subst he
  exact ⟨_, rfl, post_true laidOut (by kernel_rfl) (tb := 4) (by kernel_rfl) Try.underlying4 rfl hW' rfl rfl rfl hg⟩

noncomputable def world0 (os : Os) : World := World.holding Try.prog os ⟨#[], #[], []⟩
def witArgs : Array Value := #[.slice none 0 0, .int .i64 0]
theorem laid_met (os : Os) : laidMet Try.prog Rows.sieveOverlapsRow.laid ((world0 os).forCall (fun _ _ => 0) ⟨#[], witArgs, []⟩).memory :=
  ⟨[], rfl, List.nodup_nil, fun _ _ h => by cases h⟩
theorem reads (os : Os) {H : Type} (enc : TypeId × Value → H) : ∃ places, DataW.whole enc Try.prog ((world0 os).forCall (fun _ _ => 0) ⟨#[], witArgs, []⟩).memory Try.f3.params.toList Rows.sieveOverlapsSpec.vars false witArgs.toList 8 = some ([.nil, .lit (.int .i64 0)], [], places) :=
  ⟨[], by kernel_rfl⟩

set_option maxRecDepth 100000 in
theorem lifted (os : Os) (started : os.Started) (H : Type) (enc : TypeId × Value → H) (F : Stop.Interp) :
    ReturnsInHanded {} Try.checked os 3 .any ((OpenSpec.ofChange Rows.sieveOverlapsSpec).preRow enc Try.prog Try.f3 Rows.sieveOverlapsRow.domain false Rows.sieveOverlapsRow.laid) (((OpenSpec.ofChange Rows.sieveOverlapsSpec).at F).post enc Try.prog Try.f3 false true false false) := by
  obtain ⟨places, hx⟩ := reads os enc
  refine returnsInHanded_of_row (C := Try.checked) (s := OpenSpec.ofChange Rows.sieveOverlapsSpec) own started (by kernel_rfl) Try.func3
    (witness_row_at (enc := enc) (C := Try.checked) false (world0 os) witArgs rfl (by kernel_rfl) (by kernel_rfl) (by kernel_rfl)
      (OpenSpec.preRow_of_cond 8 hx (by kernel_rfl) (fun k hk => by cases hk) (by kernel_rfl) (laid_met os))) ?_
  intro W base args ds gs before hval hW _ _ hsz _ _ _
  exact contract H enc W args ds gs before hval hW hsz

theorem proved : Rows.SieveOverlapsSaid :=
  OpenClaim.holds_of_cond 3 Try.f3 rfl rfl rfl rfl rfl rfl rfl ⟨rfl, rfl, rfl, rfl, rfl⟩ rfl rfl rfl rfl rfl (by kernel_rfl) Try.func3 (by kernel_rfl)
    (of_decide_eq_true (by kernel_rfl)) (by unfold Func.isWrapper; first | (rw [if_pos (by decide +kernel)]; kernel_rfl) | (rw [if_neg (by decide +kernel)]; exact ⟨rfl, rfl⟩))
    (fun os started H enc _ F => by rw [OpenClaim.pre_eq_preRow]; exact lifted os started H enc F)
#print axioms proved
end Go.Proofs.Ythkaicbkcaiffaa.sieveOverlaps
