/-
  What the bound on the arguments' bulk gives; the arguments opened. Conditions: none.
-/
import Derived.Test.YthkaicbkcaiffaaRows
import Derived.Test.YthkaicbkcaiffaaL
import Derived.SliceStrings
import Derived.ProofKit
import Derived.OpenShut
import Derived.Deep.OwnRows
namespace Go.Proofs.Ythkaicbkcaiffaa
open Go.ChangeShapes Go.WideShapes Go.ChangeAt Go.RowKit

theorem bulk_one {H : Type} (d : DataW H) : 1 ≤ Rows.uptoBulk d := by
  cases d with
  | lit l => cases l <;> simp [Rows.uptoBulk]
  | nil => simp [Rows.uptoBulk]
  | ptr d => simp [Rows.uptoBulk]
  | slice elems spare => simp [Rows.uptoBulk]
  | agg parts => simp [Rows.uptoBulk]
  | iface t d => simp [Rows.uptoBulk]
  | map entries => simp [Rows.uptoBulk]
  | held h => simp [Rows.uptoBulk]
theorem bulk_length {H : Type} (l : List (DataW H)) : l.length ≤ Rows.uptoBulkAll l := by
  induction l with
  | nil => simp [Rows.uptoBulkAll]
  | cons x r ih => have := bulk_one x; simp only [Rows.uptoBulkAll, List.length_cons]; omega
theorem bulk_slice {H : Type} (elems spare : List (DataW H)) : elems.length + spare.length + 1 ≤ Rows.uptoBulk (.slice elems spare) := by
  have h1 := bulk_length elems
  have h2 := bulk_length spare
  simp only [Rows.uptoBulk]
  omega
theorem bulk_bound {H : Type} {l : List (DataW H)} (hk : Rows.uptoSmall H l = true) : Rows.uptoBulkAll l ≤ 1048576 := of_decide_eq_true hk

theorem cells5 : Try.prog.cellsOf 5 = 1 := by kernel_rfl
theorem cells9 : Try.prog.cellsOf 9 = 1 := by kernel_rfl
theorem wf_u8 {n : Int} (h : (Lit.int .u8 n).wf = true) : 0 ≤ n ∧ n < 256 := by
  simp [Lit.wf, IntKind.min, IntKind.max, IntKind.signed, IntKind.bits] at h; omega
theorem cell_in {W : World} {b o : Nat} {v : Value} (h : W.cell? ⟨b, o, none⟩ = some v) : b < W.heap.size := by
  by_cases hb2 : b < W.heap.size
  · exact hb2
  · unfold World.cell? at h; simp [Array.getElem?_eq_none (show W.heap.size ≤ b by omega)] at h

-- a slice of unsigned numbers.
set_option maxRecDepth 100000 in
theorem open_nums {H : Type} {enc : TypeId × Value → H} {W : World} {t e : TypeId} {k : IntKind} {v : Value} {d : DataW H} {p : List MemPlace} (ht : Try.prog.underlying t = some (.slice e)) (he : Try.prog.underlying e = some (.int k)) (hc : Try.prog.cellsOf e = 1)
    (hok : Value.okWide Try.prog W .any 0 t v) (h : DataW.Trod enc Try.prog W 0 (fun _ => true) true t v d p) :
    ∃ (ao : Option Addr) (n cap : Nat) (zs : List Int), v = .slice ao n cap ∧ zs.length = n ∧ n ≤ cap ∧ cap + 1 ≤ Rows.uptoBulk d ∧ (∀ z ∈ zs, (Lit.int k z).wf = true) ∧ (cap = 0 ∨ ∃ b off, ao = some ⟨b, off, none⟩) ∧
      (0 < n → ∃ b off, ao = some ⟨b, off, none⟩ ∧ b < W.heap.size ∧ ∀ i, i < n → W.cell? ⟨b, off + i, none⟩ = some (.int k (zs.getD i 0))) := by
  obtain ⟨a0, len, cap, rfl⟩ := okWide_slice ht hok
  obtain ⟨fuel, hf⟩ := h
  rcases open_ints ht he hc hf with ⟨hcs, hx⟩ | ⟨a, len', cap', zs, hcs, _, hl, hm, hz, hx, hcell, hwz⟩
  · obtain ⟨rfl, rfl, rfl⟩ : a0 = none ∧ len = 0 ∧ cap = 0 := by simpa [Value.cells] using hcs
    exact ⟨none, 0, 0, [], rfl, rfl, Nat.le_refl _, bulk_one _, by simp, .inl rfl, fun h => absurd h (Nat.lt_irrefl 0)⟩
  · obtain ⟨rfl, rfl, rfl⟩ : a0 = some a ∧ len = len' ∧ cap = cap' := by simpa [Value.cells] using hcs
    have hzl : zs.length = cap := by simpa using hz
    obtain ⟨rfl, _⟩ := Prod.mk.inj hx
    refine ⟨some a, len, cap, zs.take len, rfl, by simp; omega, hl, ?_, fun z hz => hwz z (List.mem_of_mem_take hz), ?_, fun h0 => ?_⟩
    · have := bulk_slice (H := H) (lits k (zs.take len)) (lits k (zs.drop len))
      simp [lits] at this ⊢
      omega
    · by_cases h0 : cap = 0
      · exact .inl h0
      · obtain ⟨b, off, rfl, hc⟩ := ints_at hcell (by omega)
        exact .inr ⟨b, off, rfl⟩
    · obtain ⟨b, off, rfl, hc⟩ := ints_at hcell (by omega)
      refine ⟨b, off, rfl, cell_in (hc 0 (by omega)), fun i hi => ?_⟩
      rw [hc i (by omega)]
      simp [List.getD, hi]

-- a slice of bytes.
set_option maxRecDepth 100000 in
theorem open_bytes {H : Type} {enc : TypeId × Value → H} {W : World} {v : Value} {d : DataW H} {p : List MemPlace} (hok : Value.okWide Try.prog W .any 0 27 v) (h : DataW.Trod enc Try.prog W 0 (fun _ => true) true 27 v d p) :
    ∃ (ao : Option Addr) (n cap : Nat) (l : List Nat), v = .slice ao n cap ∧ l.length = n ∧ n ≤ cap ∧ cap + 1 ≤ Rows.uptoBulk d ∧ (∀ b ∈ l, b < 256) ∧ Byt W ao l ∧ (cap = 0 ∨ ∃ b off, ao = some ⟨b, off, none⟩) := by
  obtain ⟨ao, n, cap, zs, rfl, h1, h2, h3, h4, h6, h5⟩ := open_nums Try.underlying27 Try.underlying5 cells5 hok h
  refine ⟨ao, n, cap, zs.map Int.toNat, rfl, by simpa using h1, h2, h3, fun b hb => ?_, fun h0 => ?_, h6⟩
  · obtain ⟨z, hz, rfl⟩ := List.mem_map.1 hb
    have := wf_u8 (h4 z hz)
    omega
  · obtain ⟨b, off, e1, e2, e3⟩ := h5 (by simp at h0; omega)
    refine ⟨b, off, e1, e2, fun i hi => ?_⟩
    have hi2 : i < zs.length := by simpa using hi
    rw [e3 i (by omega)]
    have hz := wf_u8 (h4 zs[i] (List.getElem_mem _))
    congr 2
    simp [List.getD, hi2]
    omega

-- a slice of strings.
set_option maxRecDepth 100000 in
theorem open_strsB {H : Type} {enc : TypeId × Value → H} {W : World} {v : Value} {d : DataW H} {p : List MemPlace} (hok : Value.okWide Try.prog W .any 0 26 v) (h : DataW.Trod enc Try.prog W 0 (fun _ => true) true 26 v d p) :
    ∃ (ao : Option Addr) (n cap : Nat) (ps : List ByteArray), v = .slice ao n cap ∧ ps.length = n ∧ n ≤ cap ∧ cap + 1 ≤ Rows.uptoBulk d ∧ (∀ s ∈ ps, s.size ≤ Rows.uptoBulk d) ∧ Strs W ao ps := by
  obtain ⟨a0, len, cap, rfl⟩ := okWide_slice Try.underlying26 hok
  obtain ⟨fuel, hf⟩ := h
  rcases open_strings Try.underlying26 Try.underlying9 cells9 hf with ⟨hcs, hx⟩ | ⟨a, len', cap', ss, hcs, _, hl, hm, hz, hx, hcell, hwz⟩
  · obtain ⟨rfl, rfl, rfl⟩ : a0 = none ∧ len = 0 ∧ cap = 0 := by simpa [Value.cells] using hcs
    exact ⟨none, 0, 0, [], rfl, rfl, Nat.le_refl _, bulk_one _, by simp, fun h => absurd h (Nat.lt_irrefl 0)⟩
  · obtain ⟨rfl, rfl, rfl⟩ : a0 = some a ∧ len = len' ∧ cap = cap' := by simpa [Value.cells] using hcs
    have hzl : ss.length = cap := by simpa using hz
    obtain ⟨rfl, _⟩ := Prod.mk.inj hx
    refine ⟨some a, len, cap, ss.take len, rfl, by simp; omega, hl, ?_, fun s hs => ?_, fun h0 => ?_⟩
    · have := bulk_slice (H := H) (strs (ss.take len)) (strs (ss.drop len))
      simp [strs] at this ⊢
      omega
    · have hmem : DataW.lit (H := H) (.string s.data.toList) ∈ strs (ss.take len) := List.mem_map.2 ⟨s, hs, rfl⟩
      have hle : ∀ (l : List (DataW H)) x, x ∈ l → Rows.uptoBulk x ≤ Rows.uptoBulkAll l := by
        intro l
        induction l with
        | nil => intro x hx; cases hx
        | cons y l ih =>
          intro x hx
          simp only [Rows.uptoBulkAll]
          rcases List.mem_cons.1 hx with rfl | hx
          · omega
          · have := ih x hx; omega
      have := hle _ _ hmem
      have e : Rows.uptoBulk (DataW.lit (H := H) (.string s.data.toList)) = s.size + 1 := by simp [Rows.uptoBulk]
      simp only [Rows.uptoBulk]
      omega
    · have hlen : (ss.take len).length = len := by simp; omega
      have hpl : ∀ (a : Addr) i, a.spot = none → a.add i = ⟨a.block, a.off + i, none⟩ := fun a i h => by cases a; simp at h; subst h; exact add0 _ _ _
      obtain ⟨b, off, spot⟩ := a
      have hspot : spot = none := by simpa [Addr.add] using World.cell?_spot (hcell 0 (by omega))
      subst hspot
      have hc : ∀ i, i < ss.length → W.cell? ⟨b, off + i, none⟩ = some (.string (ss.getD i .empty)) := fun i hi => by rw [← add0]; exact hcell i hi
      refine ⟨b, off, rfl, cell_in (hc 0 (by omega)), fun i hi => ?_⟩
      rw [hlen] at hi
      rw [hc i (by omega)]
      simp [List.getD, hi]
end Go.Proofs.Ythkaicbkcaiffaa
