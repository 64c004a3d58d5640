/-
  The two scanners side by side: what they hold, their calls, what leaves them as they are. Conditions: none.
-/
import Derived.Test.YthkaicbkcaiffaaRc
import Derived.Test.YthkaicbkcaiffaaRd
import Derived.Test.YthkaicbkcaiffaaRe
namespace Go.Proofs.Ythkaicbkcaiffaa
open Go.RowKit

theorem SieveAt.frameU {w w' : World} {base sb tb mb nb cap wd n U : Nat} {T : Tb} (h : SieveAt w base sb tb mb nb cap wd n T) (hU : sb < U ∧ tb < U ∧ mb < U ∧ nb < U) (hk : ∀ k, k < U → k < w.heap.size → w'.heap[k]? = w.heap[k]?) : SieveAt w' base sb tb mb nb cap wd n T :=
  ⟨(hk sb hU.1 h.head.lt).trans h.head, ⟨(hk tb hU.2.1 h.tab.head.lt).trans h.tab.head, h.tab.map.of_block (hk mb hU.2.2.1 h.tab.map.lt), row_of_block h.tab.row (hk nb hU.2.2.2 (row_cells h.tab.row).2.2.2.1), h.tab.b1, h.tab.b2⟩, h.b0⟩
theorem SieveAt.ltU {w : World} {base sb tb mb nb cap wd n : Nat} {T : Tb} (h : SieveAt w base sb tb mb nb cap wd n T) : sb < w.heap.size ∧ tb < w.heap.size ∧ mb < w.heap.size ∧ nb < w.heap.size :=
  ⟨h.head.lt, h.tab.head.lt, h.tab.map.lt, (row_cells h.tab.row).2.2.2.1⟩
def RefU (U rb : Nat) (lv : Value) (F : Nat → Value) : Prop := rb < U ∧ (∀ b, lv.ownBlock = some b → b < U) ∧ ∀ x, x < 256 → ∀ b, (F x).ownBlock = some b → b < U
theorem RefU.mono {U U' rb : Nat} {lv : Value} {F : Nat → Value} (h : RefU U rb lv F) (hU : U ≤ U') : RefU U' rb lv F := ⟨by have := h.1; omega, fun b q => by have := h.2.1 b q; omega, fun x hx b q => by have := h.2.2 x hx b q; omega⟩
theorem RefAt.ltU {w : World} {base rb wd : Nat} {ps : List ByteArray} {lv : Value} {F : Nat → Value} (h : RefAt w base rb wd ps lv F) : RefU w.heap.size rb lv F := by
  obtain ⟨cs, c0, _⟩ := h.head
  exact ⟨c0.lt, fun b q => (h.strs.lt b q).2, fun x hx b q => ((h.idx x hx).lt b q).2⟩
theorem RefAt.frameU {w w' : World} {base rb wd U : Nat} {ps : List ByteArray} {lv : Value} {F : Nat → Value} (h : RefAt w base rb wd ps lv F) (hU : RefU U rb lv F) (hk : ∀ k, k < U → k < w.heap.size → w'.heap[k]? = w.heap[k]?) : RefAt w' base rb wd ps lv F := by
  obtain ⟨cs, c0, c1, c2, c3⟩ := h.head
  exact ⟨⟨cs, (hk rb hU.1 c0.lt).trans c0, c1, c2, c3⟩, own_same h.strs fun b q => hk b (hU.2.1 b q) (h.strs.lt b q).2, fun b hb' => own_same (h.idx b hb') fun x q => hk x (hU.2.2 b hb' x q) ((h.idx b hb').lt x q).2, h.apart, h.b0⟩
theorem row_nb {w : World} {base n size rb x : Nat} {e e2 : TypeId} {v : Value} {xs : List Value} {cs : Array Value} (h : w.ownsRow base e size v n xs) (hb : Blk w rb e2 cs) (he : e ≠ e2) (hx : v.ownBlock = some x) : x ≠ rb := by
  rintro rfl
  rcases h.2 with ⟨rfl, _⟩ | ⟨g, cap, cur, rfl, _, hh, _⟩
  · cases hx
  · obtain rfl : g = x := by simpa [Value.ownBlock] using hx
    rw [show w.heap[g]? = _ from hb] at hh; injection hh with hh; injection hh with _ h6 _; exact he h6.symm
theorem RefAt.keep {w w' : World} {base rb wd db : Nat} {et : TypeId} {cs : Array Value} {ps : List ByteArray} {lv : Value} {F : Nat → Value} (h : RefAt w base rb wd ps lv F) (he : RfE et) (hc : Blk w db et cs) (hk : Keep w.heap.size (fun k => k = db) w w') : RefAt w' base rb wd ps lv F := by
  obtain ⟨cs1, c0, c1, c2, c3⟩ := h.head
  obtain ⟨x1, x2, x3, x4, x5⟩ := he
  exact ⟨⟨cs1, c0.keep hk c0.lt (c0.ne_tag hc x3.symm), c1, c2, c3⟩, own_same h.strs fun b q => hk.block b (h.strs.lt b q).2 (row_nb h.strs hc x4.symm q), fun b hb' => own_same (h.idx b hb') fun x q => hk.block x ((h.idx b hb').lt x q).2 (row_nb (h.idx b hb') hc x5.symm q), h.apart, h.b0⟩

/-- A pointer to block k. -/
def Pt (v : Value) (k : Nat) : Prop := v = .pointer (some ⟨k, 0, none⟩)
theorem Keep.pt {w w' : World} {B k : Nat} (h : Keep B (fun x => x = k) w w') : Keep B (Pt (.pointer (some ⟨k, 0, none⟩))) w w' := h.mono (Nat.le_refl _) fun x _ hx => by subst hx; rfl
theorem Keep.of_pt {w w' : World} {B k : Nat} (h : Keep B (Pt (.pointer (some ⟨k, 0, none⟩))) w w') : Keep B (fun x => x = k) w w' := h.mono (Nat.le_refl _) fun x _ hx => by unfold Pt at hx; simpa using hx.symm
theorem Keep.of_ptn {w w' : World} {B : Nat} (h : Keep B (Pt (.pointer none)) w w') : Below B w w' := (h.mono (S' := NoB) (Nat.le_refl _) fun x _ hx => by unfold Pt at hx; simp at hx).below
/-- The program's scanner that was fed D (its block from B on, all below U); or nil. -/
def ScA (w : World) (B U : Nat) (ps : List ByteArray) (et : TypeId) (ex : Array Value) (cv : Value) (D : List Nat) : Prop :=
  (newE ps ≠ 0 ∧ cv = .pointer none) ∨ (newE ps = 0 ∧ ∃ cb node base sb tb mb nb cap T, cv = .pointer (some ⟨cb, 0, none⟩) ∧ B ≤ cb ∧ cb < U ∧ SieveAt w base sb tb mb nb cap (wdOf ps) ps.length T ∧ (sb < U ∧ tb < U ∧ mb < U ∧ nb < U) ∧
    Auto T (ps.map bts) (wdOf ps) ∧ Blk w cb et (scX sb D.length node ex) ∧ Best T D node)
/-- The reference's scanner; what it keeps lies from LB on. -/
def ScB (w : World) (B U LB : Nat) (ps : List ByteArray) (et : TypeId) (ex : Array Value) (dv : Value) (D : List Nat) : Prop :=
  (newE ps ≠ 0 ∧ dv = .pointer none) ∨ (newE ps = 0 ∧ ∃ db base rb lv F, dv = .pointer (some ⟨db, 0, none⟩) ∧ B ≤ db ∧ db < U ∧ RefAt w base rb (wdOf ps) ps lv F ∧ RefU U rb lv F ∧ RefSc et ex LB w db rb (wdOf ps) D)
noncomputable def hitsS (ps : List ByteArray) (D l : List Nat) : List (Int × Nat) := if newE ps = 0 then hitsOf (ps.map bts) (wdOf ps) D.length D l else []
noncomputable def atS (ps : List ByteArray) (D : List Nat) : Nat := if newE ps = 0 then D.length else 0
def HeldS (ps : List ByteArray) (D : List Nat) (k : Nat) : Prop := (newE ps ≠ 0 ∧ k = 0) ∨ (newE ps = 0 ∧ IsHeld (ps.map bts) (wdOf ps) D k)
theorem HeldS.unique {ps : List ByteArray} {D : List Nat} {k k' : Nat} (h : HeldS ps D k) (h' : HeldS ps D k') : k = k' := by
  rcases h with ⟨h1, h2⟩ | ⟨h1, h2⟩ <;> rcases h' with ⟨h3, h4⟩ | ⟨h3, h4⟩
  · omega
  · exact absurd h3 h1
  · exact absurd h1 h3
  · exact h2.unique h4
section
variable {w w' : World} {B U LB : Nat} {ps : List ByteArray} {et et' : TypeId} {ex ex' : Array Value} {cv dv : Value} {D D' : List Nat}
theorem ScA.below (h : ScA w B U ps et ex cv D) (hb : Below w.heap.size w w') : ScA w' B U ps et ex cv D := by
  rcases h with h | ⟨h0, cb, node, base, sb, tb, mb, nb, cap, T, h1, h2, h3, h4, h5, h6, h7, h8⟩
  · exact .inl h
  · exact .inr ⟨h0, cb, node, base, sb, tb, mb, nb, cap, T, h1, h2, h3, h4.below hb, h5, h6, h7.below hb h7.lt, h8⟩
theorem ScB.below (h : ScB w B U LB ps et ex dv D) (hb : Below w.heap.size w w') : ScB w' B U LB ps et ex dv D := by
  rcases h with h | ⟨h0, db, base, rb, lv, F, h1, h2, h3, h4, h5, h6⟩
  · exact .inl h
  · exact .inr ⟨h0, db, base, rb, lv, F, h1, h2, h3, h4.below hb, h5, h6.below hb⟩
theorem ScB.mono {LB' : Nat} (h : ScB w B U LB ps et ex dv D) (hL : LB' ≤ LB) : ScB w B U LB' ps et ex dv D := by
  rcases h with h | ⟨h0, db, base, rb, lv, F, h1, h2, h3, h4, h5, h6⟩
  · exact .inl h
  · exact .inr ⟨h0, db, base, rb, lv, F, h1, h2, h3, h4, h5, h6.mono hL⟩
theorem ScA.frame (h : ScA w B U ps et ex cv D) (hk : ∀ k, k < U → k < w.heap.size → w'.heap[k]? = w.heap[k]?) : ScA w' B U ps et ex cv D := by
  rcases h with h | ⟨h0, cb, node, base, sb, tb, mb, nb, cap, T, h1, h2, h3, h4, h5, h6, h7, h8⟩
  · exact .inl h
  · exact .inr ⟨h0, cb, node, base, sb, tb, mb, nb, cap, T, h1, h2, h3, h4.frameU h5 hk, h5, h6, (hk cb h3 h7.lt).trans h7, h8⟩
theorem ScB.frame (h : ScB w B U LB ps et ex dv D) (hk : ∀ k, k < U ∨ LB ≤ k → k < w.heap.size → w'.heap[k]? = w.heap[k]?) : ScB w' B U LB ps et ex dv D := by
  rcases h with h | ⟨h0, db, base, rb, lv, F, h1, h2, h3, h4, h5, lo, lc, h6, h7, h8, h9⟩
  · exact .inl h
  · refine .inr ⟨h0, db, base, rb, lv, F, h1, h2, h3, h4.frameU h5 fun k a b => hk k (.inl a) b, h5, lo, lc, (hk db (.inl h3) h6.lt).trans h6, fun hz => ?_, h8, h9⟩
    obtain ⟨b, off, e1, e2⟩ := h7 hz
    exact ⟨b, off, e1, e2.of_block (hk b (.inr (h9 hz _ e1)) e2.lt)⟩
/-- A change in the other's block alone. -/
theorem ScA.other (h : ScA w B U ps et ex cv D) (ho : ScB w B U LB ps et' ex' dv D') (he : ScE et') (hne : et ≠ et') (hk : Keep w.heap.size (Pt dv) w w') : ScA w' B U ps et ex cv D := by
  rcases ho with ⟨g0, rfl⟩ | ⟨g0, db, base', rb, lv, F, rfl, g2, g3, g4, g5, lo, lc, g6, g7, g8, g9⟩
  · exact h.below hk.of_ptn
  · rcases h with h | ⟨h0, cb, node, base, sb, tb, mb, nb, cap, T, h1, h2, h3, h4, h5, h6, h7, h8⟩
    · exact .inl h
    · exact .inr ⟨h0, cb, node, base, sb, tb, mb, nb, cap, T, h1, h2, h3, h4.keep he g6 hk.of_pt, h5, h6, h7.keep hk.of_pt h7.lt (h7.ne_tag g6 hne), h8⟩
theorem ScB.other (h : ScB w B U LB ps et' ex' dv D') (ho : ScA w B U ps et ex cv D) (he : RfE et) (hne : et ≠ et') (hk : Keep w.heap.size (Pt cv) w w') : ScB w' B U LB ps et' ex' dv D' := by
  rcases ho with ⟨g0, rfl⟩ | ⟨g0, cb, node, base, sb, tb, mb, nb, cap, T, rfl, g2, g3, g4, g5, g6, g7, g8⟩
  · exact h.below hk.of_ptn
  · rcases h with h | ⟨h0, db, base', rb, lv, F, h1, h2, h3, h4, h5, lo, lc, h6, h7, h8, h9⟩
    · exact .inl h
    · refine .inr ⟨h0, db, base', rb, lv, F, h1, h2, h3, h4.keep he g7 hk.of_pt, h5, lo, lc, h6.keep hk.of_pt h6.lt (h6.ne_tag g7 hne.symm), fun hz => ?_, h8, h9⟩
      obtain ⟨b, off, e1, e2⟩ := h7 hz
      exact ⟨b, off, e1, e2.of_block (hk.of_pt.block b e2.lt (e2.ne_blk g7 he.1))⟩

theorem feedA {ao : Option Addr} {m c : Nat} {l : List Nat} (h : ScA w B U ps et ex cv D) (he : ScE et) (hm : l.length = m) (hl : Dat w ao l) (hb : ∀ b ∈ l, b < 256) (hmax : D.length + m < 549755813888) :
    Calls Try.prog 29 #[cv, .slice ao m c] w fun e w' => ∃ hv, e = .returned hv ∧ w'.ownsRow w.heap.size 44 2 hv (hitsS ps D l).length (hcs (hitsS ps D l)) ∧ ScA w' B U ps et ex cv (D ++ l) ∧ Keep w.heap.size (Pt cv) w w' := by
  unfold hitsS
  rcases h with ⟨h0, rfl⟩ | ⟨h0, cb, node, base, sb, tb, mb, nb, cap, T, rfl, h2, h3, h4, h5, h6, h7, h8⟩
  · simp only [if_neg h0]
    exact (feed_nil ao m c w).mono fun e w' ⟨a, b⟩ => ⟨_, a, World.ownsRow_nil _ _ _ _, .inl ⟨h0, rfl⟩, b ▸ Keep.refl _ _ _⟩
  · simp only [if_pos h0]
    refine (feed_at (pc := c) h4 h6 (wd_le h0) he h7 h8 hm hl hb (by omega)).mono fun e w' ⟨hv, e1, nd, r1, r2, r3, r4⟩ => ?_
    rw [List.take_of_length_le (by omega)] at r1 r4
    exact ⟨hv, e1, r4, .inr ⟨h0, cb, nd, base, sb, tb, mb, nb, cap, T, rfl, h2, h3, h4.keep he h7 r3, h5, h6, by rw [List.length_append, hm]; exact r2, r1⟩, r3.pt⟩
theorem feedB {ao : Option Addr} {m c : Nat} {l : List Nat} (h : ScB w B U LB ps et ex dv D) (he : RfE et) (hm : l.length = m) (hl : Byt w ao l) (hb : ∀ b ∈ l, b < 256) (hbD : ∀ b ∈ D, b < 256) (hmax : D.length + m < 549755813888) :
    Calls Try.prog 30 #[dv, .slice ao m c] w fun e w' => ∃ hv, e = .returned hv ∧ w'.ownsRow w.heap.size 44 2 hv (hitsS ps D l).length (hcs (hitsS ps D l)) ∧ ScB w' B U w.heap.size ps et ex dv (D ++ l) ∧ Keep w.heap.size (Pt dv) w w' := by
  unfold hitsS
  rcases h with ⟨h0, rfl⟩ | ⟨h0, db, base, rb, lv, F, rfl, h2, h3, h4, h5, h6⟩
  · simp only [if_neg h0]
    exact (refFeed_nil ao m c w).mono fun e w' ⟨a, b⟩ => ⟨_, a, World.ownsRow_nil _ _ _ _, .inl ⟨h0, rfl⟩, b ▸ Keep.refl _ _ _⟩
  · simp only [if_pos h0]
    have hblk : ∃ cs, Blk w db et cs := by obtain ⟨lo, lc, g1, _⟩ := h6; exact ⟨_, g1⟩
    obtain ⟨cs, hblk⟩ := hblk
    refine (refFeed_at (pc := c) h4 h0 rfl he h6 hm hl hb hbD hmax).mono fun e w' ⟨hv, e1, r1, r2, r3⟩ => ?_
    exact ⟨hv, e1, r1, .inr ⟨h0, db, base, rb, lv, F, rfl, h2, h3, h4.keep he hblk r3, h5, r2⟩, r3.pt⟩
theorem atA (h : ScA w B U ps et ex cv D) : Calls Try.prog 31 #[cv] w fun e w' => e = .returned (.int .i64 (atS ps D : Int)) ∧ w' = w := by
  unfold atS
  rcases h with ⟨h0, rfl⟩ | ⟨h0, cb, node, base, sb, tb, mb, nb, cap, T, rfl, h2, h3, h4, h5, h6, h7, h8⟩
  · simp only [if_neg h0]; exact at_nil w
  · simp only [if_pos h0]; exact at_at h7
theorem atB (h : ScB w B U LB ps et ex dv D) : Calls Try.prog 32 #[dv] w fun e w' => e = .returned (.int .i64 (atS ps D : Int)) ∧ w' = w := by
  unfold atS
  rcases h with ⟨h0, rfl⟩ | ⟨h0, db, base, rb, lv, F, rfl, h2, h3, h4, h5, h6⟩
  · simp only [if_neg h0]; exact refAtN_nil w
  · simp only [if_pos h0]; exact refAtN h6
theorem heldA (h : ScA w B U ps et ex cv D) : Calls Try.prog 33 #[cv] w fun e w' => ∃ k : Nat, HeldS ps D k ∧ e = .returned (.int .i64 (k : Int)) ∧ Below w.heap.size w w' := by
  rcases h with ⟨h0, rfl⟩ | ⟨h0, cb, node, base, sb, tb, mb, nb, cap, T, rfl, h2, h3, h4, h5, h6, h7, h8⟩
  · exact (held_nil w).mono fun e w' ⟨a, b⟩ => ⟨0, .inl ⟨h0, rfl⟩, a, b ▸ Below.refl _ _⟩
  · exact (held_at h4 h6 h7 h8).mono fun e w' ⟨k, a, b, c⟩ => ⟨k, .inr ⟨h0, a⟩, b, c⟩
theorem heldB (h : ScB w B U LB ps et ex dv D) (hbD : ∀ b ∈ D, b < 256) : Calls Try.prog 34 #[dv] w fun e w' => ∃ k : Nat, HeldS ps D k ∧ e = .returned (.int .i64 (k : Int)) ∧ ∃ q, w' = w.drewN q := by
  rcases h with ⟨h0, rfl⟩ | ⟨h0, db, base, rb, lv, F, rfl, h2, h3, h4, h5, h6⟩
  · exact (refHeldN_nil w).mono fun e w' ⟨a, b⟩ => ⟨0, .inl ⟨h0, rfl⟩, a, 0, b⟩
  · exact (refHeldN h4 h0 rfl h6 hbD).mono fun e w' ⟨k, a, b, c⟩ => ⟨k, .inr ⟨h0, a⟩, b, c⟩
end
end Go.Proofs.Ythkaicbkcaiffaa
