namespace Go.Proofs.YtcddcodambeljaaDoor.CrcMath
def poly : Nat := 0xedb88320
def Z (n : Nat) : Nat := n / 2 ^^^ (if n % 2 = 1 then poly else 0)
def Zn : Nat → Nat → Nat
  | 0, n => n
  | k + 1, n => Zn k (Z n)

theorem xor_div2 (a b : Nat) : (a ^^^ b) / 2 = a / 2 ^^^ b / 2 := Nat.xor_div_two
theorem xor_mod2 (a b : Nat) : (a ^^^ b) % 2 = (a % 2 + b % 2) % 2 := by
  have h := Nat.xor_mod_two_pow (a := a) (b := b) (n := 1)
  simp only [Nat.pow_one] at h
  rw [h]
  rcases Nat.mod_two_eq_zero_or_one a with ha | ha <;> rcases Nat.mod_two_eq_zero_or_one b with hb | hb <;> rw [ha, hb] <;> decide
theorem xor_eq_zero {a b : Nat} (h : a ^^^ b = 0) : a = b := by
  have : a ^^^ b ^^^ b = b := by rw [h, Nat.zero_xor]
  rwa [Nat.xor_assoc, Nat.xor_self, Nat.xor_zero] at this

theorem Z_xor (a b : Nat) : Z (a ^^^ b) = Z a ^^^ Z b := by
  unfold Z
  rw [xor_div2]
  have h := xor_mod2 a b
  rcases Nat.mod_two_eq_zero_or_one a with ha | ha <;> rcases Nat.mod_two_eq_zero_or_one b with hb | hb
  · have e : (a ^^^ b) % 2 = 0 := by omega
    simp [ha, hb, e]
  · have e : (a ^^^ b) % 2 = 1 := by omega
    simp [ha, hb, e, Nat.xor_assoc]
  · have e : (a ^^^ b) % 2 = 1 := by omega
    simp only [ha, hb, e, if_true]
    simp only [Nat.zero_ne_one, if_false, Nat.xor_zero]
    ac_rfl
  · have e : (a ^^^ b) % 2 = 0 := by omega
    simp only [ha, hb, e, if_true, Nat.zero_ne_one, if_false, Nat.xor_zero]
    have : a / 2 ^^^ poly ^^^ (b / 2 ^^^ poly) = a / 2 ^^^ b / 2 ^^^ (poly ^^^ poly) := by ac_rfl
    rw [this, Nat.xor_self, Nat.xor_zero]

theorem Zn_xor (k a b : Nat) : Zn k (a ^^^ b) = Zn k a ^^^ Zn k b := by
  induction k generalizing a b with
  | zero => rfl
  | succ k ih => simp only [Zn, Z_xor, ih]

theorem Z_two (n : Nat) : Z (2 * n) = n := by
  unfold Z; simp
theorem Zn_add (j k n : Nat) : Zn (j + k) n = Zn k (Zn j n) := by
  induction j generalizing n with
  | zero => simp [Zn]
  | succ j ih => rw [Nat.add_right_comm]; simp only [Zn, ih]
theorem Zn_pow (k n : Nat) : Zn k (2 ^ k * n) = n := by
  induction k with
  | zero => simp [Zn]
  | succ k ih =>
    simp only [Zn]
    rw [Nat.pow_succ, Nat.mul_comm (2 ^ k) 2, Nat.mul_assoc, Z_two, ih]
theorem Z_lt {n : Nat} (h : n < 2 ^ 32) : Z n < 2 ^ 32 := by
  unfold Z
  apply Nat.xor_lt_two_pow
  · omega
  · split <;> decide
theorem Zn_lt (k : Nat) {n : Nat} (h : n < 2 ^ 32) : Zn k n < 2 ^ 32 := by
  induction k generalizing n with
  | zero => exact h
  | succ k ih => exact ih (Z_lt h)
theorem Z_zero {n : Nat} (h : n < 2 ^ 32) (hz : Z n = 0) : n = 0 := by
  unfold Z at hz
  have hz := xor_eq_zero hz
  split at hz
  · unfold poly at hz; omega
  · omega
theorem Zn_zero (k : Nat) {n : Nat} (h : n < 2 ^ 32) (hz : Zn k n = 0) : n = 0 := by
  induction k generalizing n with
  | zero => exact hz
  | succ k ih => exact Z_zero h (ih (Z_lt h) hz)

def H (r : Nat) : Nat := Zn 4 r
def hs (c : Nat) : Nat := c / 16 ^^^ H (c % 16)

theorem split16 (c : Nat) : c = 2 ^ 4 * (c / 16) ^^^ c % 16 := by
  have h := Nat.two_pow_add_eq_or_of_lt (i := 4) (b := c % 16) (by omega) (c / 16)
  have e : 2 ^ 4 * (c / 16) + c % 16 = c := by omega
  apply Nat.eq_of_testBit_eq
  intro i
  rw [Nat.testBit_xor]
  conv => lhs; rw [← e, h, Nat.testBit_or]
  rw [Nat.testBit_two_pow_mul]
  by_cases hi : 4 ≤ i
  · have : (c % 16).testBit i = false := Nat.testBit_lt_two_pow (Nat.lt_of_lt_of_le (show c % 16 < 2 ^ 4 by omega) (Nat.pow_le_pow_right (by decide) hi))
    simp [this]
  · simp [hi]
theorem hs_Z (c : Nat) : hs c = Zn 4 c := by
  conv => rhs; rw [split16 c, Zn_xor, Zn_pow]
  rfl

/-- One byte. -/
def stepb (s b : Nat) : Nat := hs (hs (s ^^^ b))
theorem stepb_Z (s b : Nat) : stepb s b = Zn 8 (s ^^^ b) := by
  unfold stepb; rw [hs_Z, hs_Z, ← Zn_add]
def run : Nat → List Nat → Nat
  | s, [] => s
  | s, b :: l => run (stepb s b) l
/-- The message as one number, the lowest byte first. -/
def num : List Nat → Nat
  | [] => 0
  | b :: l => b ^^^ 2 ^ 8 * num l
theorem run_num (l : List Nat) : ∀ s, run s l = Zn (8 * l.length) (s ^^^ num l) := by
  induction l with
  | nil => intro s; simp [run, num, Zn]
  | cons b l ih =>
    intro s
    simp only [run, num, List.length_cons]
    rw [ih, stepb_Z]
    have e : 8 * (l.length + 1) = 8 + 8 * l.length := by omega
    rw [e, Zn_add, ← Nat.xor_assoc, Zn_xor 8 (s ^^^ b), Zn_pow]
theorem run_lt (l : List Nat) (h : ∀ b ∈ l, b < 256) : ∀ s, s < 2 ^ 32 → run s l < 2 ^ 32 := by
  induction l with
  | nil => intro s hs; exact hs
  | cons b l ih =>
    intro s hs
    refine ih (fun c hc => h c (by simp [hc])) _ ?_
    rw [stepb_Z]
    exact Zn_lt 8 (Nat.xor_lt_two_pow hs (Nat.lt_of_lt_of_le (h b (by simp)) (by decide)))
theorem num_xor : ∀ (l m : List Nat), l.length = m.length → num (List.zipWith (· ^^^ ·) l m) = num l ^^^ num m
  | [], [], _ => by simp [num]
  | a :: l, b :: m, h => by
    have ih := num_xor l m (by simpa using h)
    simp only [List.zipWith, num, ih]
    have e : 2 ^ 8 * (num l ^^^ num m) = 2 ^ 8 * num l ^^^ 2 ^ 8 * num m := by
      apply Nat.eq_of_testBit_eq; intro i
      simp only [Nat.testBit_xor, Nat.testBit_two_pow_mul]
      by_cases hi : 8 ≤ i <;> simp [hi]
    rw [e]; ac_rfl
theorem mul_xor (k a b : Nat) : 2 ^ k * (a ^^^ b) = 2 ^ k * a ^^^ 2 ^ k * b := by
  apply Nat.eq_of_testBit_eq; intro i
  simp only [Nat.testBit_xor, Nat.testBit_two_pow_mul]
  by_cases hi : k ≤ i <;> simp [hi]
theorem num_set : ∀ (l : List Nat) (i x : Nat), i < l.length → num (l.set i (l.getD i 0 ^^^ x)) = num l ^^^ 2 ^ (8 * i) * x
  | [], i, x, h => by simp at h
  | b :: l, 0, x, _ => by simp [num]; ac_rfl
  | b :: l, i + 1, x, h => by
    have ih := num_set l i x (by simpa using h)
    simp only [List.set_cons_succ, num, List.getD_cons_succ, ih, mul_xor]
    rw [← Nat.mul_assoc, ← Nat.pow_add, show 8 + 8 * i = 8 * (i + 1) by omega, Nat.xor_assoc]
def top : Nat := 0xffffffff
def crc (l : List Nat) : Nat := run top l ^^^ top
/-- The algebra: three lists and their XOR. -/
theorem crc_xor3 (a b c d : List Nat) (h1 : a.length = b.length) (h2 : a.length = c.length) (hd : d = List.zipWith (· ^^^ ·) (List.zipWith (· ^^^ ·) a b) c) :
    crc d = crc a ^^^ crc b ^^^ crc c := by
  subst hd
  unfold crc
  rw [run_num, run_num, run_num, run_num, num_xor _ _ (by simp [← h1, ← h2]), num_xor _ _ h1]
  have e : (List.zipWith (· ^^^ ·) (List.zipWith (· ^^^ ·) a b) c).length = a.length := by simp [← h1, ← h2]
  rw [e, ← h1, ← h2]
  simp only [Zn_xor]
  generalize Zn (8 * a.length) top = t
  generalize Zn (8 * a.length) (num a) = x
  generalize Zn (8 * a.length) (num b) = y
  generalize Zn (8 * a.length) (num c) = z
  have : t ^^^ x ^^^ top ^^^ (t ^^^ y ^^^ top) ^^^ (t ^^^ z ^^^ top) = (t ^^^ t) ^^^ (top ^^^ top) ^^^ (t ^^^ (x ^^^ y ^^^ z) ^^^ top) := by ac_rfl
  rw [this, Nat.xor_self, Nat.xor_self, Nat.xor_self, Nat.zero_xor]
/-- A burst: lists of one length whose numbers differ by 'burst' at bit 'at'. -/
theorem crc_burst (d e : List Nat) (hl : d.length = e.length) (at_ burst : Nat) (hb : burst < 2 ^ 32) (h0 : burst ≠ 0) (hat : at_ + 32 ≤ 8 * d.length)
    (hn : num e = num d ^^^ 2 ^ at_ * burst) : crc e ≠ crc d := by
  intro h
  unfold crc at h
  have h1 : run top e = run top d := by
    have : run top e ^^^ top ^^^ top = run top d ^^^ top ^^^ top := by rw [h]
    rwa [Nat.xor_assoc, Nat.xor_assoc, Nat.xor_self, Nat.xor_zero, Nat.xor_zero] at this
  rw [run_num, run_num, ← hl, hn, Zn_xor, Zn_xor, Zn_xor] at h1
  have e1 : 8 * d.length = at_ + (8 * d.length - at_) := by omega
  have h2 : Zn (8 * d.length) (2 ^ at_ * burst) = 0 := by
    generalize Zn (8 * d.length) top = t at h1
    generalize Zn (8 * d.length) (num d) = x at h1
    generalize Zn (8 * d.length) (2 ^ at_ * burst) = y at h1
    have : t ^^^ (x ^^^ y) ^^^ (t ^^^ x) = (t ^^^ t) ^^^ (x ^^^ x) ^^^ y := by ac_rfl
    rw [h1, Nat.xor_self, Nat.xor_self, Nat.xor_self, Nat.zero_xor, Nat.zero_xor] at this
    exact this.symm
  rw [e1, Zn_add, Zn_pow] at h2
  exact h0 (Zn_zero _ hb h2)
end Go.Proofs.YtcddcodambeljaaDoor.CrcMath
