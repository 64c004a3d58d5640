/-
  The reference's Scanner: made, asked its place, fed. Conditions: none.
-/
import Derived.Test.YthkaicbkcaiffaaRa
namespace Go.Proofs.Ythkaicbkcaiffaa
open Go.RowKit

/-- The reference's scanner's cells at the head of a block of more. -/
def rfX (rb : Nat) (lo : Option Addr) (k lc : Nat) (n : Int) (ex : Array Value) : Array Value := #[.pointer (some ⟨rb, 0, none⟩), .slice lo k lc, .int .i64 n] ++ ex
section
variable {rb k lc k' lc' : Nat} {lo lo' : Option Addr} {n n' : Int} {ex : Array Value}
theorem rfX_0 : (rfX rb lo k lc n ex)[0]? = some (.pointer (some ⟨rb, 0, none⟩)) := by unfold rfX; rw [Array.getElem?_append_left (by simp)]; rfl
theorem rfX_1 : (rfX rb lo k lc n ex)[1]? = some (.slice lo k lc) := by unfold rfX; rw [Array.getElem?_append_left (by simp)]; rfl
theorem rfX_2 : (rfX rb lo k lc n ex)[2]? = some (.int .i64 n) := by unfold rfX; rw [Array.getElem?_append_left (by simp)]; rfl
theorem rfX_set1 : (rfX rb lo k lc n ex).setIfInBounds 1 (.slice lo' k' lc') = rfX rb lo' k' lc' n ex := by unfold rfX; rw [Array.setIfInBounds_append_left (by simp)]; rfl
theorem rfX_set2 : (rfX rb lo k lc n ex).setIfInBounds 2 (.int .i64 n') = rfX rb lo k lc n' ex := by unfold rfX; rw [Array.setIfInBounds_append_left (by simp)]; rfl
end
/-- The types that the reference's scanner's block has not. -/
def RfE (e : TypeId) : Prop := e ≠ 5 ∧ e ≠ 44 ∧ e ≠ 91 ∧ e ≠ 9 ∧ e ≠ 3
theorem rfe96 : RfE 96 := by unfold RfE; decide
/-- The reference's Scanner that was fed D; what it keeps lies from block B on. -/
def RefSc (et : TypeId) (ex : Array Value) (B : Nat) (w : World) (db rb wd : Nat) (D : List Nat) : Prop :=
  ∃ lo lc, Blk w db et (rfX rb lo (lastOf wd D).length lc (D.length : Int) ex) ∧ Dat w lo (lastOf wd D) ∧ (lastOf wd D).length ≤ lc ∧ (0 < (lastOf wd D).length → ∀ a, lo = some a → B ≤ a.block)
theorem RefSc.mono {et : TypeId} {ex : Array Value} {B B' : Nat} {w : World} {db rb wd : Nat} {D : List Nat} (h : RefSc et ex B w db rb wd D) (hB : B' ≤ B) : RefSc et ex B' w db rb wd D := by
  obtain ⟨lo, lc, h1, h2, h3, h4⟩ := h
  exact ⟨lo, lc, h1, h2, h3, fun h a ha => Nat.le_trans hB (h4 h a ha)⟩
theorem Dat.of_block {w w' : World} {lo : Option Addr} {l : List Nat} (h : Dat w lo l) (hb : ∀ b, b < w.heap.size → (∀ a, lo = some a → a.block = b → w'.heap[b]? = w.heap[b]?)) : Dat w' lo l := by
  intro h0
  obtain ⟨b, off, rfl, hs⟩ := h h0
  exact ⟨b, off, rfl, hs.of_block (hb b hs.lt _ rfl rfl)⟩
theorem Dat.below {w w' : World} {lo : Option Addr} {l : List Nat} (h : Dat w lo l) (hb : Below w.heap.size w w') : Dat w' lo l := h.of_block fun b hlt _ _ _ => hb.block b hlt
theorem RefSc.below {et : TypeId} {ex : Array Value} {B : Nat} {w w' : World} {db rb wd : Nat} {D : List Nat} (h : RefSc et ex B w db rb wd D) (hb : Below w.heap.size w w') : RefSc et ex B w' db rb wd D := by
  obtain ⟨lo, lc, h1, h2, h3, h4⟩ := h
  exact ⟨lo, lc, h1.below hb h1.lt, h2.below hb, h3, h4⟩
theorem refScanner_at (w : World) (rb : Nat) : Calls Try.prog 27 #[.pointer (some ⟨rb, 0, none⟩)] w fun e w' => e = .returned (.pointer (some ⟨w.heap.size, 0, none⟩)) ∧ w' = w.alloc (.cells #[.pointer (some ⟨rb, 0, none⟩), .slice none 0 0, .int .i64 0] 96) := by
  go_enter Try.func27, Try.ntmps27
  go_wp2
  go_ret
  exact ⟨rfl, rfl⟩
theorem refScanner_nil (w : World) : Calls Try.prog 27 #[.pointer none] w fun e w' => e = .returned (.pointer none) ∧ w' = w := by
  go_enter Try.func27, Try.ntmps27
  go_wp2
  go_ret
  exact ⟨rfl, rfl⟩
theorem refSc_new (w : World) (rb wd B : Nat) : RefSc 96 #[] B (w.alloc (.cells #[.pointer (some ⟨rb, 0, none⟩), .slice none 0 0, .int .i64 0] 96)) w.heap.size rb wd [] :=
  ⟨none, 0, by rw [show lastOf wd [] = [] by simp [lastOf], rfX, Array.append_empty]; exact Blk.new, fun h => absurd h (by simp [lastOf]), by simp [lastOf], fun _ a ha => by cases ha⟩
theorem refAtN {et : TypeId} {ex : Array Value} {B : Nat} {w : World} {db rb wd : Nat} {D : List Nat} (h : RefSc et ex B w db rb wd D) : Calls Try.prog 32 #[.pointer (some ⟨db, 0, none⟩)] w fun e w' => e = .returned (.int .i64 (D.length : Int)) ∧ w' = w := by
  obtain ⟨lo, lc, h1, _, _⟩ := h
  have k := h1.cell rfX_2
  clear h1
  go_enter Try.func32, Try.ntmps32
  go_wp2
  go_ret
  exact ⟨rfl, rfl⟩
theorem refAtN_nil (w : World) : Calls Try.prog 32 #[.pointer none] w fun e w' => e = .returned (.int .i64 0) ∧ w' = w := by
  go_enter Try.func32, Try.ntmps32
  go_wp2
  go_ret
  exact ⟨rfl, rfl⟩
theorem refFeed_nil (ao : Option Addr) (n c : Nat) (w : World) : Calls Try.prog 30 #[.pointer none, .slice ao n c] w fun e w' => e = .returned (.slice none 0 0) ∧ w' = w := by
  go_enter Try.func30, Try.ntmps30
  go_wp2
  go_ret
  exact ⟨rfl, rfl⟩

theorem bytes_one (l : List Nat) : ∀ u ∈ l.map fun x : Nat => Value.int .u8 (x : Int), u.oneCell' = true := by intro u hu; simp only [List.mem_map] at hu; obtain ⟨x, _, rfl⟩ := hu; rfl
theorem Byt.src {w : World} {ao : Option Addr} {l : List Nat} {m : Nat} (h : Byt w ao l) (hm : l.length = m) : Src w ao m (l.map fun x : Nat => Value.int .u8 (x : Int)) := fun h0 => by
  obtain ⟨b, off, rfl, _, hc⟩ := h (by omega)
  refine ⟨_, rfl, fun j u hj => ?_⟩
  have hjl : j < l.length := by have := (List.getElem?_eq_some_iff.1 hj).1; simpa using this
  rw [add0, hc j hjl, ← hj]; simp [List.getD, hjl]
theorem Dat.byt {w : World} {ao : Option Addr} {l : List Nat} (h : Dat w ao l) : Byt w ao l := fun h0 => by
  obtain ⟨b, off, rfl, hs⟩ := h h0
  exact ⟨b, off, rfl, hs.lt, hs.cells⟩
theorem dat_of_own {w : World} {base n cap : Nat} {ao : Option Addr} {l : List Nat} (h : w.ownsRow base 5 1 (.slice ao n cap) n (l.map fun x : Nat => .int .u8 (x : Int))) : Dat w ao l := fun h0 => by
  have hl : l.length = n := by have := h.1; simpa using this
  obtain ⟨g, rfl⟩ := own_some h (by omega)
  exact ⟨g, 0, rfl, SrcB.of_own (m := []) (by rw [List.append_nil]; exact h)⟩
theorem SrcB.drop {w : World} {b off : Nat} {l : List Nat} (h : SrcB w b off l) (j : Nat) : SrcB w b (off + j) (l.drop j) := by
  obtain ⟨cs, fz, h1, h2⟩ := h
  refine ⟨cs, fz, h1, fun i hi => ?_⟩
  have hi2 : j + i < l.length := by simp at hi; omega
  rw [Nat.add_assoc, h2 (j + i) hi2]; simp [List.getD]

/-- What a Feed of the reference leaves. -/
def RFeed (et : TypeId) (ex : Array Value) (P : List (List Nat)) (wd rb db : Nat) (D l : List Nat) (w : World) (hv : Value) (w' : World) : Prop :=
  w'.ownsRow w.heap.size 44 2 hv (hitsOf P wd D.length D l).length (hcs (hitsOf P wd D.length D l)) ∧ RefSc et ex w.heap.size w' db rb wd (D ++ l) ∧ Keep w.heap.size (fun k => k = db) w w'
/-- The shifting: j hits are. -/
def RfRel (w : World) (B : Nat) (ho : Option Addr) (N hc ga M ca : Nat) (hs : List (Int × Nat)) (al : List Nat) (d : Int) (j : Nat) (wr : World) : Prop :=
  Below B w wr ∧ wr.ownsRow B 5 1 (.slice (some ⟨ga, 0, none⟩) M ca) M (al.map fun x : Nat => .int .u8 (x : Int)) ∧ ∃ hs', Mix hs d j hs' ∧ wr.ownsRow B 44 2 (.slice ho N hc) N (hcs hs')
theorem RfRel.drew {w wr : World} {B N hc ga M ca j : Nat} {ho : Option Addr} {hs : List (Int × Nat)} {al : List Nat} {d : Int} (h : RfRel w B ho N hc ga M ca hs al d j wr) : RfRel w B ho N hc ga M ca hs al d j wr.drew :=
  ⟨h.1.drew, h.2.1, h.2.2⟩
theorem RfRel.step {w wr : World} {B g N hc ga M ca j : Nat} {hs : List (Int × Nat)} {al : List Nat} {d s2 : Int} (h : RfRel w B (some ⟨g, 0, none⟩) N hc ga M ca hs al d j wr) (hj : j < N) (hN : hs.length = N) (hs2 : (hs.getD j (0, 0)).1 + d = s2) :
    RfRel w B (some ⟨g, 0, none⟩) N hc ga M ca hs al d (j + 1) (wr.setCell ⟨g, j * 2, none⟩ (.int .i64 s2)) := by
  obtain ⟨h1, h2, hs', h3, h4⟩ := h
  have hbg := (row_cells h4).1
  have hne : ga ≠ g := fun e => by
    rcases tags h2 h4 (by decide) with q | q
    · cases q
    · exact q (by simp [Value.ownBlock, e])
  have h5 := own_set h4 (k := j * 2) (.int .i64 s2) (by omega)
  rw [hcs_set _ _ _ (by rw [h3.1, hN]; exact hj), ← hs2] at h5
  exact ⟨h1.setCell hbg _, row_of_block h2 (Below.heap_setCell _ _ _ _ hne), _, h3.step (by rw [hN]; exact hj), by rw [← hs2]; exact h5⟩
theorem append_bytes {w w1 : World} {base g n c m pc : Nat} {ao : Option Addr} {xs l : List Nat} (hb : Below base w w1) (hbase : base ≤ w1.heap.size) (hown : w1.ownsRow base 5 1 (.slice (some ⟨g, 0, none⟩) n c) n (xs.map fun x : Nat => .int .u8 (x : Int)))
    (hsrc : Byt w1 ao l) (hm : l.length = m) (hmax : n + m ≤ 1099511627776) :
    ∃ g' c' w2, (Builtin.append_ #[27, 27] 27 #[.slice (some ⟨g, 0, none⟩) n c, .slice ao m pc]).run Try.prog w1 = .ok (.slice (some ⟨g', 0, none⟩) (n + m) c') w2 ∧
      w2.ownsRow base 5 1 (.slice (some ⟨g', 0, none⟩) (n + m) c') (n + m) ((xs ++ l).map fun x : Nat => .int .u8 (x : Int)) ∧ Below base w w2 ∧ w1.grownBy w2 (some g) ∧ n + m ≤ c' := by
  obtain ⟨i0, a1, a2, a3, a4⟩ := info_parts infoU8
  obtain ⟨v', w2, h1, h2, h3, h4⟩ := run_append_src (P := Try.prog) w1 base 27 27 5 i0 (.int .u8 0) 1 1 Try.underlying27 a1 a2 a3 a4 rfl (by decide) _ n _ hown ao m pc _ (by simp [hm]) (hsrc.src hm) (bytes_one l) (by unfold maxLen; omega) (by omega) hbase
  have hg : ∃ g', v'.ownBlock = some g' := by
    rcases h4 with h | h
    · exact ⟨g, h⟩
    · exact ⟨_, h⟩
  obtain ⟨g', hg⟩ := hg
  obtain ⟨c', rfl⟩ := own_at h2 hg
  rw [byte_list_append] at h2
  exact ⟨g', c', w2, h1, h2, hb.grown h3 hbase (fun k hk => (hown.lt k hk).1), h3, (row_cells h2).2.1⟩
theorem Blk.ne_tag {w : World} {b b2 : Nat} {e e2 : TypeId} {cs cs2 : Array Value} (h : Blk w b e cs) (h2 : Blk w b2 e2 cs2) (he : e ≠ e2) : b ≠ b2 := by
  rintro rfl
  have h3 : w.heap[b]? = _ := h
  rw [show w.heap[b]? = _ from h2] at h3; injection h3 with h3; injection h3 with _ h6 _; exact he h6.symm
theorem rb_scan {w : World} {base rb wd m pc : Nat} {ps : List ByteArray} {lv : Value} {F : Nat → Value} {ao : Option Addr} {l : List Nat} (h5 : RefAt w base rb wd ps lv F) (h0 : newE ps = 0) (hwd : wdOf ps = wd) (hm : l.length = m) (hmc : m ≤ pc) (hl : Byt w ao l) (hb : ∀ b ∈ l, b < 256) (hmax : m < 1099511627776) :
    Calls Try.prog 24 #[.pointer (some ⟨rb, 0, none⟩), .slice ao m pc] w fun e w' => ∃ hv hs, e = .returned hv ∧ Below w.heap.size w w' ∧ w'.ownsRow w.heap.size 44 2 hv hs.length (hcs hs) ∧ (∀ h ∈ hs, 0 ≤ h.1 ∧ h.1 ≤ m) ∧ hs.length ≤ m ∧
      ∀ D l', l = lastOf wd D ++ l' → hs.map (sh ((D.length : Int) - (lastOf wd D).length)) = hitsOf (ps.map bts) wd D.length D l' := by
  subst hwd
  by_cases hz : 0 < ps.length
  · have hw1 := wd_pos h0 hz
    have hP : ∀ p, p ∈ ps.map bts → p.length = wdOf ps := fun p hp => (pats_ok (newE0 h0).2.1 p hp).1
    refine (refScan_at h5 hm hmc hb (newE0 h0).1 (wd_le h0) hw1 (newE0 h0).2.2 hmax (fun q => ?_)).mono fun e w' ⟨hv, he, hr⟩ => ⟨hv, _, he, hr.1, hr.2, fun h hh => ?_, ?_, fun D l' e => ?_⟩
    · obtain ⟨b, off, e1, _, e2⟩ := hl (by omega)
      exact ⟨b, off, e1, e2⟩
    · have := refHits_place h hh; omega
    · have := refHits_len (ps.map bts) (wdOf ps) l (m + 1 - wdOf ps); omega
    · have := feed_same hw1 hP D l'
      rw [← e, hm] at this; exact this
  · obtain ⟨e1, e2⟩ := wd_nil (ps := ps) (by omega)
    rw [e2] at h5
    refine (refScan_zero ao m pc h5).mono fun e w' ⟨he, hw⟩ => ⟨_, [], he, hw ▸ Below.refl _ _, World.ownsRow_nil _ _ _ _, by simp, by simp, fun D l' _ => ?_⟩
    rw [e1, show ([] : List ByteArray).map bts = [] from rfl, hitsOf_nil]; rfl

theorem rf_post {et : TypeId} {ex : Array Value} {P : List (List Nat)} {w wc : World} {wd rb db n m k lw g3 cc3 q j hc : Nat} {ho aa lo : Option Addr} {lc : Nat} {D l : List Nat} {hs' : List (Int × Nat)}
    (D1 : Blk wc db et (rfX rb lo k lc ((n : Int) + (m : Int)) ex)) (D2 : Keep w.heap.size (fun k => k = db) w wc) (D3 : wc.ownsRow w.heap.size 44 2 (.slice ho j hc) j (hcs hs'))
    (D4 : wc.ownsRow w.heap.size 5 1 (.slice (some ⟨g3, 0, none⟩) (k + m) cc3) (k + m) ((lastOf wd D ++ l).map fun x : Nat => .int .u8 (x : Int))) (hdb : db < w.heap.size)
    (hn : D.length = n) (hk : (lastOf wd D).length = k) (hm : l.length = m) (hj : hs'.length = j) (hH : hitsOf P wd n D l = hs') (hq : min (wd - 1) (k + m) = q) (hlw : k + m - q = lw) (hcc : k + m ≤ cc3) (haa : cc3 ≠ lw → aa = some ⟨g3, lw, none⟩) :
    RFeed et ex P wd rb db D l w (.slice ho j hc) (wc.setCell ⟨db, 1, none⟩ (.slice aa (k + m - lw) (cc3 - lw))) := by
  have hne : ∀ x, w.heap.size ≤ x → x ≠ db := fun x hx e => by omega
  have hlast := lastOf_append wd D l
  rw [List.length_append, hk, hm, hq, hlw] at hlast
  have hll : (lastOf wd (D ++ l)).length = k + m - lw := by rw [← hlast, List.length_drop, List.length_append, hk, hm]
  refine ⟨?_, ⟨aa, cc3 - lw, ?_, fun h0 => ?_, by rw [hll]; omega, fun h0 a ha => ?_⟩, Keep.setCell (S := fun k => k = db) D2 (.inr rfl) _⟩
  · rw [hn, hH, hj]
    exact own_same D3 fun x q => Below.heap_setCell _ _ _ _ (hne x (D3.lt x q).1)
  · have := D1.set (i := 1) (v := .slice aa (k + m - lw) (cc3 - lw))
    rw [rfX_set1] at this
    rw [hll, List.length_append, hn, hm]
    simpa using this
  · rw [hll] at h0
    have h1 := haa (by omega)
    subst h1
    refine ⟨g3, lw, rfl, ?_⟩
    have h2 : SrcB wc g3 0 (lastOf wd D ++ l) := SrcB.of_own (m := []) (by rw [List.append_nil]; exact D4)
    have h3 := h2.drop lw
    rw [Nat.zero_add, hlast] at h3
    exact h3.of_block (Below.heap_setCell _ _ _ _ (hne g3 (row_cells D4).1))
  · rw [hll] at h0
    have h1 := haa (by omega)
    rw [h1] at ha
    obtain rfl := Option.some.inj ha
    exact (row_cells D4).1
end Go.Proofs.Ythkaicbkcaiffaa
