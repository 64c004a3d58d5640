/-
  The arguments opened: strings (with what is known of the address), u16 numbers. Conditions: none.
-/
import Derived.Test.YthkaicbkcaiffaaBulk
import Derived.Test.YthkaicbkcaiffaaWp
namespace Go.Proofs.Ythkaicbkcaiffaa
open Go.ChangeShapes Go.WideShapes Go.ChangeAt Go.RowKit

theorem cells99 : Try.prog.cellsOf 99 = 1 := by kernel_rfl
theorem wf_u16 {n : Int} (h : (Lit.int .u16 n).wf = true) : 0 ≤ n ∧ n < 65536 := by
  simp [Lit.wf, IntKind.min, IntKind.max, IntKind.signed, IntKind.bits] at h; omega
set_option maxRecDepth 100000 in
theorem open_u16s {H : Type} {enc : TypeId × Value → H} {W : World} {v : Value} {d : DataW H} {p : List MemPlace} (hok : Value.okWide Try.prog W .any 0 46 v) (h : DataW.Trod enc Try.prog W 0 (fun _ => true) true 46 v d p) :
    ∃ (ao : Option Addr) (n cap : Nat) (l : List Nat), v = .slice ao n cap ∧ l.length = n ∧ n ≤ cap ∧ cap + 1 ≤ Rows.uptoBulk d ∧ (∀ b ∈ l, b < 65536) ∧ U16 W ao l := by
  obtain ⟨ao, n, cap, zs, rfl, h1, h2, h3, h4, h6, h5⟩ := open_nums Try.underlying46 Try.underlying99 cells99 hok h
  refine ⟨ao, n, cap, zs.map Int.toNat, rfl, by simpa using h1, h2, h3, fun b hb => ?_, fun h0 => ?_⟩
  · obtain ⟨z, hz, rfl⟩ := List.mem_map.1 hb
    have := wf_u16 (h4 z hz)
    omega
  · obtain ⟨b, off, e1, e2, e3⟩ := h5 (by simp at h0; omega)
    refine ⟨b, off, e1, e2, fun i hi => ?_⟩
    have hi2 : i < zs.length := by simpa using hi
    rw [e3 i (by omega)]
    have hz := wf_u16 (h4 zs[i] (List.getElem_mem _))
    congr 2
    simp [List.getD, hi2]
    omega

-- a slice of strings.
set_option maxRecDepth 100000 in
theorem open_strsF {H : Type} {enc : TypeId × Value → H} {W : World} {v : Value} {d : DataW H} {p : List MemPlace} (hok : Value.okWide Try.prog W .any 0 26 v) (h : DataW.Trod enc Try.prog W 0 (fun _ => true) true 26 v d p) :
    ∃ (ao : Option Addr) (n cap : Nat) (ps : List ByteArray), v = .slice ao n cap ∧ ps.length = n ∧ n ≤ cap ∧ cap + 1 ≤ Rows.uptoBulk d ∧ (∀ s ∈ ps, s.size ≤ Rows.uptoBulk d) ∧ Strs W ao ps ∧ (cap = 0 ∨ ∃ b off, ao = some ⟨b, off, none⟩) := by
  obtain ⟨a0, len, cap, rfl⟩ := okWide_slice Try.underlying26 hok
  obtain ⟨fuel, hf⟩ := h
  rcases open_strings Try.underlying26 Try.underlying9 cells9 hf with ⟨hcs, hx⟩ | ⟨a, len', cap', ss, hcs, _, hl, hm, hz, hx, hcell, hwz⟩
  · obtain ⟨rfl, rfl, rfl⟩ : a0 = none ∧ len = 0 ∧ cap = 0 := by simpa [Value.cells] using hcs
    exact ⟨none, 0, 0, [], rfl, rfl, Nat.le_refl _, bulk_one _, by simp, fun h => absurd h (Nat.lt_irrefl 0), .inl rfl⟩
  · obtain ⟨rfl, rfl, rfl⟩ : a0 = some a ∧ len = len' ∧ cap = cap' := by simpa [Value.cells] using hcs
    have hzl : ss.length = cap := by simpa using hz
    obtain ⟨rfl, _⟩ := Prod.mk.inj hx
    refine ⟨some a, len, cap, ss.take len, rfl, by simp; omega, hl, ?_, fun s hs => ?_, fun h0 => ?_, ?_⟩
    · have := bulk_slice (H := H) (strs (ss.take len)) (strs (ss.drop len))
      simp [strs] at this ⊢
      omega
    · have hmem : DataW.lit (H := H) (.string s.data.toList) ∈ strs (ss.take len) := List.mem_map.2 ⟨s, hs, rfl⟩
      have hle : ∀ (l : List (DataW H)) x, x ∈ l → Rows.uptoBulk x ≤ Rows.uptoBulkAll l := by
        intro l
        induction l with
        | nil => intro x hx; cases hx
        | cons y l ih =>
          intro x hx
          simp only [Rows.uptoBulkAll]
          rcases List.mem_cons.1 hx with rfl | hx
          · omega
          · have := ih x hx; omega
      have := hle _ _ hmem
      have e : Rows.uptoBulk (DataW.lit (H := H) (.string s.data.toList)) = s.size + 1 := by simp [Rows.uptoBulk]
      simp only [Rows.uptoBulk]
      omega
    · have hlen : (ss.take len).length = len := by simp; omega
      have hpl : ∀ (a : Addr) i, a.spot = none → a.add i = ⟨a.block, a.off + i, none⟩ := fun a i h => by cases a; simp at h; subst h; exact add0 _ _ _
      obtain ⟨b, off, spot⟩ := a
      have hspot : spot = none := by simpa [Addr.add] using World.cell?_spot (hcell 0 (by omega))
      subst hspot
      have hc : ∀ i, i < ss.length → W.cell? ⟨b, off + i, none⟩ = some (.string (ss.getD i .empty)) := fun i hi => by rw [← add0]; exact hcell i hi
      refine ⟨b, off, rfl, cell_in (hc 0 (by omega)), fun i hi => ?_⟩
      rw [hlen] at hi
      rw [hc i (by omega)]
      simp [List.getD, hi]
    · by_cases h0 : cap = 0
      · exact .inl h0
      · obtain ⟨b, off, spot⟩ := a
        have hspot : spot = none := by simpa [Addr.add] using World.cell?_spot (hcell 0 (by omega))
        subst hspot
        exact .inr ⟨b, off, rfl⟩
end Go.Proofs.Ythkaicbkcaiffaa
