import Derived.Test.YtcddcodambeljaaDoorW
import Derived.StillTailTactics
import Derived.Deep.DeepCutAuto
import Derived.Deep.CutRange
import Derived.Outline
import Derived.Lib.Hide
import Derived.Lib.SlBytesConst
namespace Go.Proofs.YtcddcodambeljaaDoor
open Go.RowKit
open CrcMath (crc num)

theorem infoU8 : (Tryd.prog.info? 5).map (fun i => (i.zero, i.size, i.bytes)) = some (some (.int .u8 0), 1, 1) := by kernel_rfl

/-- The contract, the length apart. -/
theorem crc_len (n b off cap : Nat) (l : List Nat) (w : World) (hn : l.length = n) (hl : n ≤ maxLen) (hb : ∀ i, l.getD i 0 < 256) (HC : ByteCells w b off l) (T : TableAt w) :
    Calls Tryd.prog 4 #[.slice (some ⟨b, off, none⟩) n cap] w fun e w' => e = .returned (.int .u32 (crc l)) ∧ w' = w := by
  subst hn; exact crc_some b off cap l w hl hb HC T

theorem crc_val {n p b off cap : Nat} {l : List Nat} {w : World} (hp : crc l = p) (hn : l.length = n) (hl : n ≤ maxLen) (hb : ∀ i, l.getD i 0 < 256) (HC : ByteCells w b off l) (T : TableAt w) :
    Calls Tryd.prog 4 #[.slice (some ⟨b, off, none⟩) n cap] w fun e w' => e = .returned (.int .u32 p) ∧ w' = w := by
  subst hp; exact crc_len n b off cap l w hn hl hb HC T
theorem mem_lt {l : List Nat} (hb : ∀ i, l.getD i 0 < 256) : ∀ b ∈ l, b < 256 := by
  intro b h
  obtain ⟨i, hi, rfl⟩ := List.mem_iff_getElem.1 h
  have := hb i
  simpa [List.getD, hi] using this
theorem crc_lt {l : List Nat} (hb : ∀ i, l.getD i 0 < 256) : crc l < 4294967296 :=
  Nat.xor_lt_two_pow (n := 32) (CrcMath.run_lt l (mem_lt hb) _ (by decide)) (by decide)
theorem take_lt {l : List Nat} {k : Nat} (hb : ∀ i, l.getD i 0 < 256) (i : Nat) : (l.take k).getD i 0 < 256 := by
  by_cases h : i < (l.take k).length
  · have h2 : i < k ∧ i < l.length := by simpa [Nat.lt_min] using h
    have := hb i
    simpa [List.getD, h2.1] using this
  · have : (l.take k).getD i 0 = 0 := by simp only [List.getD]; rw [List.getElem?_eq_none (by omega)]; rfl
    omega

/-- The XOR of three lists at the first k of n places. -/
def D (a b c : List Nat) (n k : Nat) : List Nat := (List.range n).map fun i => if i < k then a.getD i 0 ^^^ b.getD i 0 ^^^ c.getD i 0 else 0

theorem D_len (a b c : List Nat) (n k : Nat) : (D a b c n k).length = n := by simp [D]
theorem D_get (a b c : List Nat) (n k i : Nat) (h : i < n) : (D a b c n k).getD i 0 = if i < k then a.getD i 0 ^^^ b.getD i 0 ^^^ c.getD i 0 else 0 := by simp [D, List.getD, h]
theorem D_zero (a b c : List Nat) (n : Nat) : D a b c n 0 = List.replicate n 0 := by
  apply List.ext_getElem
  · simp [D]
  · intro i h1 h2; simp [D]
theorem D_succ (a b c : List Nat) (n k : Nat) (_h : k < n) : (D a b c n k).set k (a.getD k 0 ^^^ b.getD k 0 ^^^ c.getD k 0) = D a b c n (k + 1) := by
  apply List.ext_getElem
  · simp [D]
  · intro i h1 h2
    simp only [D, List.getElem_set, List.getElem_map, List.getElem_range]
    by_cases e : k = i
    · subst e; simp
    · rw [if_neg e]
      by_cases hi : i < k
      · rw [if_pos hi, if_pos (by omega)]
      · rw [if_neg hi, if_neg (by omega)]
theorem D_full (a b c : List Nat) (k : Nat) (h0 : k ≤ a.length) (h1 : k ≤ b.length) (h2 : k ≤ c.length) :
    D a b c k k = List.zipWith (· ^^^ ·) (List.zipWith (· ^^^ ·) (a.take k) (b.take k)) (c.take k) := by
  apply List.ext_getElem
  · simp [D]; omega
  · intro i q1 q2
    have hi : i < k := by simpa [D] using q1
    simp [D, hi, List.getD, show i < a.length by omega, show i < b.length by omega, show i < c.length by omega]
theorem crc_D (a b c : List Nat) (k : Nat) (h0 : k ≤ a.length) (h1 : k ≤ b.length) (h2 : k ≤ c.length) :
    crc (D a b c k k) = crc (a.take k) ^^^ crc (b.take k) ^^^ crc (c.take k) :=
  CrcMath.crc_xor3 _ _ _ _ (by simp; omega) (by simp; omega) (D_full a b c k h0 h1 h2)
theorem D_lt (a b c : List Nat) (n : Nat) (ha : ∀ i, a.getD i 0 < 256) (hb : ∀ i, b.getD i 0 < 256) (hc : ∀ i, c.getD i 0 < 256) (i : Nat) : (D a b c n n).getD i 0 < 256 := by
  by_cases h : i < n
  · rw [D_get _ _ _ _ _ _ h, if_pos h]; exact Nat.xor_lt_two_pow (n := 8) (Nat.xor_lt_two_pow (n := 8) (ha i) (hb i)) (hc i)
  · simp only [List.getD]; rw [List.getElem?_eq_none (by rw [D_len]; omega)]; decide
theorem wraps_u8' (n : Int) (h₀ : 0 ≤ n) (h₁ : n < 2 ^ 8) : IntKind.u8.wrap n = n := by rw [IntKind.wrap_u8]; omega
theorem xor_u8 (a b : Nat) (ha : a < 256) (hb : b < 256) : bits BinOp.xor .u8 (a : Int) (b : Int) = ((a ^^^ b : Nat) : Int) := bits_xor .u8 8 (by decide) wraps_u8' a b ha hb

structure In (w : World) (b off n cap : Nat) (l : List Nat) : Prop where
  len : l.length = n
  cap : n ≤ cap
  max : n ≤ 140737488351232
  byte : ∀ i, l.getD i 0 < 256
  cells : ByteCells w b off l
  lt : b < w.heap.size

theorem In.at {w w' : World} {b off n cap B k : Nat} {l : List Nat} (h : In w b off n cap l) (hb : Below B w w') (hB : w.heap.size ≤ B) (hk : k < n) :
    ∃ x : Nat, x < 256 ∧ w'.cell? ⟨b, off + k, none⟩ = some (.int .u8 x) ∧ x = l.getD k 0 :=
  ⟨l.getD k 0, h.byte k, h.cells.below hb (Nat.lt_of_lt_of_le h.lt hB) k (by rw [h.len]; exact hk), rfl⟩

theorem In.take {w : World} {b off n cap k : Nat} {l : List Nat} (h : In w b off n cap l) (hk : k ≤ n) : (l.take k).length = k := by
  rw [List.length_take, h.len]; omega
theorem TableAt.below {w w' : World} {B : Nat} (h : TableAt w) (hb : Below B w w') (hB : 0 < B) : TableAt w' :=
  fun i hi => (hb.cell (p := ⟨0, i, none⟩) hB).trans (h i hi)

def known : List Nat := [49, 50, 51, 52, 53, 54, 55, 56, 57]
theorem known_crc : crc known = 3421780262 := by decide
theorem known_lt (i : Nat) : known.getD i 0 < 256 := by
  by_cases h : i < 9
  · revert i; decide
  · simp only [List.getD]; rw [List.getElem?_eq_none (by simpa [known] using h)]; decide
theorem known_cells (w : World) : ByteCells (w.alloc (.cells #[.int .u8 49, .int .u8 50, .int .u8 51, .int .u8 52, .int .u8 53, .int .u8 54, .int .u8 55, .int .u8 56, .int .u8 57] 5 (9, 10))).drew w.heap.size 0 known := by
  intro i hi
  rw [Nat.zero_add]
  show World.cell? (w.alloc _) _ = _
  rw [World.cell?_alloc_mark]
  have : i < 9 := hi
  match i, this with
  | 0, _ | 1, _ | 2, _ | 3, _ | 4, _ | 5, _ | 6, _ | 7, _ | 8, _ => rfl
theorem TableAt.alloc {w : World} {o : Obj} (h : TableAt w) (hw : 0 < w.heap.size) : TableAt (w.alloc o) :=
  h.below ((Below.refl w.heap.size w).alloc (Nat.le_refl _) o) hw

theorem and1_u32 (a : Nat) (ha : a < 4294967296) : bits BinOp.and .u32 (a : Int) 1 = ((a % 2 : Nat) : Int) := by
  have := (bits_nat .u32 32 (by decide) wraps_u32 a 1 ha (by decide)).1
  rw [show ((1 : Nat) : Int) = 1 from rfl] at this
  rw [this, Nat.and_two_pow_sub_one_eq_mod a 1]
theorem and1_shift (b j : Nat) (hb : b < 4294967296) : bits BinOp.and .u32 ((b : Int) / 2 ^ j) 1 = ((b / 2 ^ j % 2 : Nat) : Int) := by
  rw [← and1_u32 _ (Nat.lt_of_le_of_lt (Nat.div_le_self _ _) hb)]; push_cast; rfl
theorem burst_split (b j : Nat) : b % 2 ^ (j + 1) = b % 2 ^ j + 2 ^ j * (b / 2 ^ j % 2) := Nat.mod_pow_succ
theorem burst_zero (b j : Nat) (h : b / 2 ^ j % 2 = 0) : b % 2 ^ (j + 1) = b % 2 ^ j := by rw [burst_split, h]; omega
theorem burst_one (b j : Nat) (h : b / 2 ^ j % 2 = 1) : b % 2 ^ (j + 1) = b % 2 ^ j ^^^ 2 ^ j := by
  rw [burst_split, h, Nat.mul_one, Nat.add_comm]
  have h1 : b % 2 ^ j < 2 ^ j := Nat.mod_lt _ (Nat.two_pow_pos j)
  have h2 := Nat.two_pow_add_eq_or_of_lt h1 1
  rw [Nat.mul_one] at h2
  rw [h2]
  apply Nat.eq_of_testBit_eq
  intro i
  rw [Nat.testBit_or, Nat.testBit_xor, Nat.testBit_two_pow]
  by_cases e : j = i
  · subst e; rw [Nat.testBit_lt_two_pow h1]; simp
  · simp [e]

theorem xor_pow (x r : Nat) (hx : x < 256) (hr : r < 8) : bits .xor .u8 (x : Int) (2 ^ r % 256) = ((x ^^^ 2 ^ r : Nat) : Int) := by
  have h : 2 ^ r < 2 ^ 8 := Nat.pow_lt_pow_right (by decide) hr
  rw [← xor_u8 x (2 ^ r) hx h]
  congr 1
  have : ((2 ^ r : Nat) : Int) = 2 ^ r := by push_cast; rfl
  rw [← this]
  have h' : (2 : Nat) ^ r < 256 := h
  generalize (2 : Nat) ^ r = q at h' ⊢
  omega
theorem set_lt {l : List Nat} {p y : Nat} (hb : ∀ i, l.getD i 0 < 256) (hy : y < 256) (i : Nat) : (l.set p y).getD i 0 < 256 := by
  have := hb i
  simp only [List.getD, List.getElem?_set] at *
  by_cases e : p = i
  · subst e
    by_cases h : p < l.length <;> simp [h, hy]
  · simpa [e] using this

set_option maxHeartbeats 1000000 in
set_option maxRecDepth 100000 in
theorem law_some (b0 o0 n0 c0 b1 o1 n1 c1 b2 o2 n2 c2 : Nat) (l0 l1 l2 : List Nat) (at_ : Int) (burst : Nat) (w : World) (h0 : In w b0 o0 n0 c0 l0) (h1 : In w b1 o1 n1 c1 l1) (h2 : In w b2 o2 n2 c2 l2)
    (T : TableAt w) (hb : burst < 4294967296) (hT : 0 < w.heap.size) :
    Calls Tryd.prog 3 #[.slice (some ⟨b0, o0, none⟩) n0 c0, .slice (some ⟨b1, o1, none⟩) n1 c1, .slice (some ⟨b2, o2, none⟩) n2 c2, .int .i64 at_, .int .u32 burst] w fun e w' => e = .returned (.bool true) ∧ Below w.heap.size w w' := by
  have m0 := h0.max
  have m1 := h1.max
  have m2 := h2.max
  go_enter Tryd.func3, Tryd.ntmps3
  go_upto_if 21 with (fail)
  go_cut [11] (fun s wx => s = .int .i64 (min n0 n1 : Nat) ∧ w = wx)
  case first =>
    go_wp2
    all_goals go_meet
    all_goals exact ⟨by go_num, rfl⟩
  case rest =>
    obtain ⟨rfl, rfl⟩ := hcut
    obtain ⟨m, hm, hm1⟩ : ∃ m, m = min n0 n1 ∧ m ≤ 140737488351232 := ⟨_, rfl, by omega⟩
    rw [← hm]
    go_upto_if 27 with (fail)
    go_cut [11] (fun s wx => s = .int .i64 (min m n2 : Nat) ∧ w = wx)
    case first =>
      go_wp2
      all_goals go_meet
      all_goals exact ⟨by go_num, rfl⟩
    case rest =>
      obtain ⟨rfl, rfl⟩ := hcut
      obtain ⟨n, hn, hn1⟩ : ∃ n, n = min m n2 ∧ n ≤ 140737488351232 := ⟨_, rfl, by omega⟩
      rw [← hn]
      have hmk := run_make_row' (P := Tryd.prog) 22 5 (.int .u8 0) 1 Tryd.underlying22 infoU8 rfl .i64 .i64 n (by omega) (by omega)
      have H0 := Lib.hid h0
      have H1 := Lib.hid h1
      have H2 := Lib.hid h2
      have HN := Lib.hid hn
      have HM := Lib.hid hm
      clear h0 h1 h2 hn hm
      go_wp2
      go_loopw [13] (fun i wr => ∃ k : Nat, k ≤ n ∧ i = .int .i64 k ∧ Below w.heap.size w wr ∧ Blk wr w.heap.size 5 (u8s (D l0 l1 l2 n k))) (fun i _ => n - (intOf i).toNat)
      case atStart => exact ⟨0, by omega, rfl, (Below.refl _ _).alloc (Nat.le_refl _) _, by rw [D_zero, ← u8s_made]; exact Blk.new⟩
      case round =>
        obtain ⟨k, hk, rfl, hbel, hblk⟩ := hrel
        by_cases hlt : k < n
        · have k0 : k < n0 := by have := HN.out; have := HM.out; omega
          have k1 : k < n1 := by have := HN.out; have := HM.out; omega
          have k2 : k < n2 := by have := HN.out; have := HM.out; omega
          obtain ⟨x0, v0, e0, q0⟩ := H0.out.at hbel (Nat.le_refl _) k0
          obtain ⟨x1, v1, e1, q1⟩ := H1.out.at hbel (Nat.le_refl _) k1
          obtain ⟨x2, v2, e2, q2⟩ := H2.out.at hbel (Nat.le_refl _) k2
          obtain ⟨y, vy, ey⟩ : ∃ y, y < 256 ∧ y = x0 ^^^ x1 := ⟨_, Nat.xor_lt_two_pow (n := 8) v0 v1, rfl⟩
          obtain ⟨z, vz, ez⟩ : ∃ z, z < 256 ∧ z = y ^^^ x2 := ⟨_, Nat.xor_lt_two_pow (n := 8) vy v2, rfl⟩
          have f1 : bits BinOp.xor .u8 (x0 : Int) (x1 : Int) = (y : Int) := by rw [ey]; exact xor_u8 _ _ v0 v1
          have f2 : bits BinOp.xor .u8 (y : Int) (x2 : Int) = (z : Int) := by rw [ez]; exact xor_u8 _ _ vy v2
          have g1 := hblk.cell (u8s_get _ k (by rw [D_len]; exact hlt))
          have g2 : wr.frozen? ⟨w.heap.size, k, none⟩ = false := hblk.free
          have HB := Lib.hid hblk
          have HL := Lib.hid hbel
          have HZ : Hid (z = l0.getD k 0 ^^^ l1.getD k 0 ^^^ l2.getD k 0) := by show z = _; rw [ez, ey, q0, q1, q2]
          clear hblk hbel ey ez q0 q1 q2
          go_wp2
          go_still_tail 17, (by kernel_rfl)
          change wpList _ _ _ _ _ wr.drew
          go_wp2
          go_roundw
          case rel => exact ⟨k + 1, by omega, by go_num, (HL.out.drew).setCell (Nat.le_refl _) _, by rw [← D_succ _ _ _ _ _ hlt, ← HZ.out, ← u8s_set]; exact (HB.out.drew).set⟩
          case measure => simp [intOf]; omega
        · obtain rfl : k = n := by omega
          obtain ⟨kn0, kn1, kn2⟩ : k ≤ n0 ∧ k ≤ n1 ∧ k ≤ n2 := by have := HN.out; have := HM.out; omega
          obtain ⟨p1, u1, E1⟩ : ∃ p, p < 4294967296 ∧ crc (l0.take k) = p := ⟨_, crc_lt (fun i => take_lt H0.out.byte i), rfl⟩
          obtain ⟨p2, u2, E2⟩ : ∃ p, p < 4294967296 ∧ crc (l1.take k) = p := ⟨_, crc_lt (fun i => take_lt H1.out.byte i), rfl⟩
          obtain ⟨p3, u3, E3⟩ : ∃ p, p < 4294967296 ∧ crc (l2.take k) = p := ⟨_, crc_lt (fun i => take_lt H2.out.byte i), rfl⟩
          obtain ⟨q, uq, Eq⟩ : ∃ q, q < 4294967296 ∧ q = p1 ^^^ p2 := ⟨_, Nat.xor_lt_two_pow (n := 32) u1 u2, rfl⟩
          obtain ⟨r, ur, Er⟩ : ∃ r, r < 4294967296 ∧ r = q ^^^ p3 := ⟨_, Nat.xor_lt_two_pow (n := 32) uq u3, rfl⟩
          have f1 : bits BinOp.xor .u32 (p1 : Int) (p2 : Int) = (q : Int) := by rw [Eq]; exact xor_u32 _ _ u1 u2
          have f2 : bits BinOp.xor .u32 (q : Int) (p3 : Int) = (r : Int) := by rw [Er]; exact xor_u32 _ _ uq u3
          have ED : Hid (crc (D l0 l1 l2 k k) = r) := by
            show crc (D l0 l1 l2 k k) = r
            rw [Er, Eq, ← E1, ← E2, ← E3]; exact crc_D _ _ _ _ (by rw [H0.out.len]; exact kn0) (by rw [H1.out.len]; exact kn1) (by rw [H2.out.len]; exact kn2)
          have G1 := Lib.hid E1
          have G2 := Lib.hid E2
          have G3 := Lib.hid E3
          clear E1 E2 E3
          have TT : TableAt wr.drew := T.below hbel.drew hT
          have BD : ByteCells wr.drew w.heap.size 0 (D l0 l1 l2 k k) := hblk.drew.bytes
          have B0 : ByteCells wr.drew b0 o0 (l0.take k) := (H0.out.cells.below hbel.drew H0.out.lt).take
          have B1 : ByteCells wr.drew b1 o1 (l1.take k) := (H1.out.cells.below hbel.drew H1.out.lt).take
          have B2 : ByteCells wr.drew b2 o2 (l2.take k) := (H2.out.cells.below hbel.drew H2.out.lt).take
          have C0 := Lib.hid (fun cap => crc_val (cap := cap) ED.out (D_len _ _ _ _ _) (by unfold maxLen; omega) (D_lt _ _ _ _ H0.out.byte H1.out.byte H2.out.byte) BD TT)
          have C1 := Lib.hid (fun cap => crc_val (cap := cap) G1.out (In.take H0.out kn0) (by unfold maxLen; omega) (take_lt H0.out.byte) B0 TT)
          have C2 := Lib.hid (fun cap => crc_val (cap := cap) G2.out (In.take H1.out kn1) (by unfold maxLen; omega) (take_lt H1.out.byte) B1 TT)
          have C3 := Lib.hid (fun cap => crc_val (cap := cap) G3.out (In.take H2.out kn2) (by unfold maxLen; omega) (take_lt H2.out.byte) B2 TT)
          obtain ⟨cc0, cc1, cc2⟩ : k ≤ c0 ∧ k ≤ c1 ∧ k ≤ c2 := by have := H0.out.cap; have := H1.out.cap; have := H2.out.cap; omega
          have FF1 := Lib.hid f1
          have FF2 := Lib.hid f2
          have HB := Lib.hid hblk
          have HL := Lib.hid hbel
          have HTT := Lib.hid TT
          have HBD := Lib.hid BD
          clear hk hlt Eq Er hblk hbel TT BD B0 B1 B2
          go_wp2
          refine wp_region_still_tail 18 (by kernel_rfl) (by kernel_rfl) ?_
          simp only [List.take_succ_cons, List.take_zero, List.drop_succ_cons, List.drop_zero]
          repeat still_step
          still_call (C0.out _)
          repeat still_step
          still_call (C1.out _)
          repeat still_step
          still_call (C2.out _)
          repeat still_step
          still_call (C3.out _)
          repeat still_step
          refine wpStill_nil ?_
          change wpList _ _ _ _ _ wr.drew
          have kc : ∀ (C : Array Value) (n c : Nat), (convert 22 22 (.slice (some ⟨wr.heap.size, 0, none⟩) n c)).run Tryd.prog (wr.alloc (.cells C 5)).drew = .ok (.slice (some ⟨wr.heap.size, 0, none⟩) n c) (wr.alloc (.cells C 5 (C.size, C.size + 1))).drew := fun C n c => Lib.run_convert_bytes_const (P := Tryd.prog) wr.drew 22 5 C n c Tryd.underlying22 Tryd.underlying5
          have CK := Lib.hid (fun (wx : World) (h : ByteCells wx wr.heap.size 0 known) (t : TableAt wx) => crc_val (cap := 9) (off := 0) known_crc (show known.length = 9 from rfl) (by decide) known_lt h t)
          go_upto_if 76 with (go_at_call 4; refine (CK.out _ (known_cells wr) (HTT.out.alloc (Nat.lt_of_lt_of_le hT HL.out.size))).mono ?_; rintro e w' ⟨rfl, rfl⟩)
          go_cut [] (fun wx => Below w.heap.size w wx ∧ Blk wx w.heap.size 5 (u8s (D l0 l1 l2 k k)))
          case first =>
            go_wp2
            go_meet
            exact ⟨(HL.out.alloc HL.out.size _).drew, HB.out.alloc.drew⟩
          case rest =>
            obtain ⟨HL2, HB2⟩ := hcut
            have HL2 := Lib.hid HL2
            have HB2 := Lib.hid HB2
            clear HL HB HTT HBD C0 C1 C2 C3 kc CK f1 f2
            by_cases hz : burst = 0
            · subst hz
              go_wp2
              go_ret
              exact ⟨rfl, HL2.out⟩
            · by_cases h32 : 8 * k < 32
              · have hz1 : ((burst : Int) == 0) = false := by simpa using hz
                go_wp2
                go_ret
                exact ⟨rfl, HL2.out⟩
              · have hz1 : ((burst : Int) == 0) = false := by simpa using hz
                have h33 : decide (8 * (k : Int) < 32) = false := by simp; omega
                go_upto_if 90 with (fail)
                have t1 : at_.tmod (8 * (k : Int) - 31) < 8 * (k : Int) - 31 := Int.tmod_lt_of_pos _ (by omega)
                have t2 : -(8 * (k : Int) - 31) < at_.tmod (8 * (k : Int) - 31) := Int.lt_tmod_of_pos _ (by omega)
                obtain ⟨t, ht⟩ : ∃ t, t = at_.tmod (8 * (k : Int) - 31) := ⟨_, rfl⟩
                rw [← ht] at t1 t2
                rw [← ht]
                clear ht
                go_cut [3] (fun s wx => (∃ A : Nat, s = .int .i64 A ∧ A + 32 ≤ 8 * k) ∧ wc = wx)
                case first =>
                  by_cases hneg : t < 0
                  · go_wp2
                    go_meet
                    exact ⟨⟨(t + 8 * k - 31).toNat, by go_num, by omega⟩, rfl⟩
                  · go_wp2
                    go_meet
                    exact ⟨⟨t.toNat, by go_num, by omega⟩, rfl⟩
                case rest =>
                  obtain ⟨⟨A, rfl, hA⟩, rfl⟩ := hcut
                  clear t1 t2
                  go_wp2
                  go_loopw [14] (fun i wr => ∃ j : Nat, j ≤ 32 ∧ i = .int .i64 j ∧ Below w.heap.size w wr ∧ ∃ l : List Nat, l.length = k ∧ (∀ i, l.getD i 0 < 256) ∧ num l = num (D l0 l1 l2 k k) ^^^ 2 ^ A * (burst % 2 ^ j) ∧ Blk wr w.heap.size 5 (u8s l)) (fun i _ => 32 - (intOf i).toNat)
                  case atStart => exact ⟨0, by omega, rfl, HL2.out, _, D_len _ _ _ _ _, D_lt _ _ _ _ H0.out.byte H1.out.byte H2.out.byte, by simp [Nat.mod_one], HB2.out⟩
                  case round =>
                    obtain ⟨j, hj, rfl, hl, l, ll, lb, ln, hB⟩ := hrel
                    by_cases hlt : j < 32
                    · have LL := Lib.hid ll
                      have LN := Lib.hid ln
                      have LB := Lib.hid lb
                      have HB3 := Lib.hid hB
                      have HL3 := Lib.hid hl
                      clear ll ln hB lb hl
                      obtain ⟨p, r, hp, hr, hpr⟩ : ∃ p r : Nat, p < k ∧ r < 8 ∧ A + j = 8 * p + r := ⟨(A + j) / 8, (A + j) % 8, by omega, by omega, by omega⟩
                      have he : ((A : Int) + (j : Int)) / 8 = (p : Int) := by omega
                      have hm : ((A : Int) + (j : Int)) % 8 = (r : Int) := by omega
                      have HPR := Lib.hid hpr
                      clear hpr
                      obtain ⟨x, vx, qx⟩ : ∃ x, x < 256 ∧ x = l.getD p 0 := ⟨_, LB.out p, rfl⟩
                      have g1 : wr.cell? ⟨w.heap.size, p, none⟩ = some (.int .u8 (x : Int)) := by rw [qx]; exact HB3.out.cell (u8s_get _ p (by rw [LL.out]; exact hp))
                      have g2 : wr.frozen? ⟨w.heap.size, p, none⟩ = false := HB3.out.free
                      have QX := Lib.hid qx
                      clear qx
                      by_cases hbit : burst / 2 ^ j % 2 = 1
                      · have ea : bits .and .u32 ((burst : Int) / 2 ^ j) 1 = 1 := by rw [and1_shift _ _ hb, hbit]; rfl
                        have HBit := Lib.hid hbit
                        clear hbit
                        obtain ⟨y, vy, hy⟩ : ∃ y, y < 256 ∧ y = x ^^^ 2 ^ r := ⟨_, Nat.xor_lt_two_pow (n := 8) vx (Nat.pow_lt_pow_right (by decide) hr), rfl⟩
                        have ex : bits .xor .u8 (x : Int) (2 ^ r % 256) = (y : Int) := by rw [hy]; exact xor_pow x r vx hr
                        have HY := Lib.hid hy
                        clear hy
                        go_wp2
                        go_roundw
                        case rel =>
                          refine ⟨j + 1, by omega, by go_num, HL3.out.setCell (Nat.le_refl _) _, l.set p y, by simpa using LL.out, set_lt LB.out vy, ?_, by rw [← u8s_set]; exact HB3.out.set⟩
                          rw [HY.out, QX.out, CrcMath.num_set _ _ _ (by rw [LL.out]; exact hp), LN.out, burst_one _ _ HBit.out, CrcMath.mul_xor, ← Nat.pow_add, ← Nat.pow_add, show A + j = 8 * p + r from HPR.out, Nat.xor_assoc]
                        case measure => simp [intOf]; omega
                      · have ea : bits .and .u32 ((burst : Int) / 2 ^ j) 1 = 0 := by rw [and1_shift _ _ hb, show burst / 2 ^ j % 2 = 0 by omega]; rfl
                        have HBit := Lib.hid hbit
                        clear hbit
                        go_wp2
                        go_roundw
                        case rel => exact ⟨j + 1, by omega, by go_num, HL3.out, l, LL.out, LB.out, by rw [LN.out, burst_zero _ _ (by have := HBit.out; omega)], HB3.out⟩
                        case measure => simp [intOf]; omega
                    · obtain rfl : j = 32 := by omega
                      have ne : crc l ≠ crc (D l0 l1 l2 k k) := CrcMath.crc_burst _ _ (by rw [D_len, ll]) A burst hb hz (by rw [D_len]; exact hA) (by rw [ln, Nat.mod_eq_of_lt (a := burst) hb])
                      obtain ⟨s, E0⟩ : ∃ s, crc l = s := ⟨_, rfl⟩
                      rw [E0, ED.out] at ne
                      have ne0 : (s : Int) ≠ (r : Int) := by omega
                      have ne1 : ((s : Int) != (r : Int)) = true := bne_iff_ne.2 ne0
                      clear ne0
                      have TT : TableAt wr.drew := T.below hl.drew hT
                      have BD : ByteCells wr.drew w.heap.size 0 l := hB.drew.bytes
                      have B0 : ByteCells wr.drew b0 o0 (l0.take k) := (H0.out.cells.below hl.drew H0.out.lt).take
                      have B1 : ByteCells wr.drew b1 o1 (l1.take k) := (H1.out.cells.below hl.drew H1.out.lt).take
                      have B2 : ByteCells wr.drew b2 o2 (l2.take k) := (H2.out.cells.below hl.drew H2.out.lt).take
                      have C0 := Lib.hid (fun cap => crc_val (cap := cap) E0 ll (by unfold maxLen; omega) lb BD TT)
                      have C1 := Lib.hid (fun cap => crc_val (cap := cap) G1.out (In.take H0.out kn0) (by unfold maxLen; omega) (take_lt H0.out.byte) B0 TT)
                      have C2 := Lib.hid (fun cap => crc_val (cap := cap) G2.out (In.take H1.out kn1) (by unfold maxLen; omega) (take_lt H1.out.byte) B1 TT)
                      have C3 := Lib.hid (fun cap => crc_val (cap := cap) G3.out (In.take H2.out kn2) (by unfold maxLen; omega) (take_lt H2.out.byte) B2 TT)
                      have f1 : bits BinOp.xor .u32 (p1 : Int) (p2 : Int) = (q : Int) := FF1.out
                      have f2 : bits BinOp.xor .u32 (q : Int) (p3 : Int) = (r : Int) := FF2.out
                      have HL3 := Lib.hid hl
                      clear ll ln hB lb hl ne E0 TT BD B0 B1 B2
                      go_wp2
                      refine wp_region_still_lit (by kernel_rfl) (by kernel_rfl) ?_
                      repeat still_step
                      still_call (C0.out _)
                      repeat still_step
                      still_call (C1.out _)
                      repeat still_step
                      still_call (C2.out _)
                      repeat still_step
                      still_call (C3.out _)
                      repeat still_step
                      refine wpStill_nil ?_
                      go_wp2
                      go_ret
                      exact ⟨rfl, HL3.out.drew⟩
end Go.Proofs.YtcddcodambeljaaDoor
