import Derived.Test.YtgkokjkoifdbnaaGreatAm0
/- The interpreter's parts again, so told that Lean's kernel goes fast; each is what it was. -/
namespace Go.Am
set_option autoImplicit false
set_option linter.unusedVariables false

noncomputable def tgetF (t : TM) : Nat → AV :=
  TM.rec (motive := fun _ => Nat → AV) (fun _ => aundef) (fun a n => bif Nat.beq n 0 then a else aundef) (fun _ _ il ir n => bif Nat.beq (n % 2) 0 then il (n / 2) else ir (n / 2)) t
theorem tgetF_eq (t : TM) : tgetF t = tget t := by
  induction t with
  | nil => rfl
  | one a => rfl
  | two l r il ir => funext n; show (bif _ then tgetF l _ else tgetF r _) = _; rw [il, ir]; rfl
noncomputable def AO.evF (x : AO) : TM → AV := AO.rec (motive := fun _ => TM → AV) (fun i tm => tgetF tm i) (fun a _ => a) x
theorem evF_eq (x : AO) (tm : TM) : x.evF tm = x.ev tm := by
  cases x with
  | t i => show tgetF tm i = _; rw [tgetF_eq]; rfl
  | c a => rfl

def ltF : Int → Int → Bool
  | .ofNat x, .ofNat y => Nat.blt x y
  | .negSucc _, .ofNat _ => true
  | .ofNat _, .negSucc _ => false
  | .negSucc x, .negSucc y => Nat.blt y x
def eqF : Int → Int → Bool
  | .ofNat x, .ofNat y => Nat.beq x y
  | .negSucc x, .negSucc y => Nat.beq x y
  | _, _ => false
theorem ltF_eq (a b : Int) : ltF a b = decide (a < b) := by
  cases a <;> cases b <;> simp only [ltF]
  · rename_i x y
    rw [Bool.eq_iff_iff, Nat.blt_eq, decide_eq_true_eq]; exact Int.ofNat_lt.symm
  · rename_i x y; symm; simp; omega
  · rename_i x y; symm; simp; omega
  · rename_i x y
    rw [Bool.eq_iff_iff]; simp only [Nat.blt_eq, decide_eq_true_eq]; omega
theorem eqF_eq (a b : Int) : eqF a b = (a == b) := by
  cases a <;> cases b <;> simp only [eqF]
  · rename_i x y; rw [Bool.eq_iff_iff]; simp; omega
  · rename_i x y; symm; simp
  · rename_i x y; symm; simp
  · rename_i x y; rw [Bool.eq_iff_iff]; simp
def samek : IntKind → IntKind → Bool
  | .i64, .i64 => true
  | .u8, .u8 => true
  | .u64, .u64 => true
  | .u32, .u32 => true
  | a, b => decide (a = b)
theorem samek_eq (a b : IntKind) : samek a b = decide (a = b) := by cases a <;> cases b <;> rfl
def p63 : Nat := 9223372036854775808
def p64 : Nat := 18446744073709551616
def wrapF (k : IntKind) (n : Int) : Int :=
  match k with
  | .i64 => match n with
    | .ofNat x => bif Nat.blt x 9223372036854775808 then .ofNat x else IntKind.wrap .i64 n
    | .negSucc x => bif Nat.blt x 9223372036854775808 then .negSucc x else IntKind.wrap .i64 n
  | .u8 => match n with
    | .ofNat x => .ofNat (x % 256)
    | _ => IntKind.wrap .u8 n
  | .u32 => match n with
    | .ofNat x => .ofNat (x % 4294967296)
    | _ => IntKind.wrap .u32 n
  | .u64 => match n with
    | .ofNat x => .ofNat (x % 18446744073709551616)
    | _ => IntKind.wrap .u64 n
  | k => k.wrap n
theorem pow64 : (2 ^ 64 : Int) = 18446744073709551616 := by decide
theorem pow63 : (2 ^ 63 : Int) = 9223372036854775808 := by decide
theorem wrap64 (n : Int) : IntKind.wrap .i64 n = if n % 18446744073709551616 ≥ 9223372036854775808 then n % 18446744073709551616 - 18446744073709551616 else n % 18446744073709551616 := by
  show (if (true && decide (n % (2 ^ 64 : Int) ≥ (2 ^ 63 : Int))) = true then n % (2 ^ 64 : Int) - (2 ^ 64 : Int) else n % (2 ^ 64 : Int)) = _
  rw [pow64, pow63]
  simp only [Bool.true_and, decide_eq_true_eq]
theorem wrapU (k : IntKind) (h : k.signed = false) (x : Nat) : k.wrap (Int.ofNat x) = Int.ofNat (x % 2 ^ k.bits) := by
  unfold IntKind.wrap
  simp only [h, Bool.false_and, Bool.false_eq_true, if_false]
  rfl
theorem wrapF_eq (k : IntKind) (n : Int) : wrapF k n = k.wrap n := by
  cases k <;> try rfl
  · -- i64
    rw [wrap64]
    cases n with
    | ofNat x =>
      simp only [wrapF]
      cases h : Nat.blt x 9223372036854775808 with
      | false => rw [cond_false, wrap64]
      | true =>
        rw [Nat.blt_eq] at h
        rw [cond_true]
        have e : Int.ofNat x % 18446744073709551616 = Int.ofNat x := Int.emod_eq_of_lt (by simp) (by simp; omega)
        rw [e, if_neg]
        simp; omega
    | negSucc x =>
      simp only [wrapF]
      cases h : Nat.blt x 9223372036854775808 with
      | false => rw [cond_false, wrap64]
      | true =>
        rw [Nat.blt_eq] at h
        rw [cond_true]
        have e : Int.negSucc x % 18446744073709551616 = Int.negSucc x + 18446744073709551616 := by omega
        rw [e, if_pos (by omega)]
        omega
  · cases n with
    | ofNat x => exact (wrapU .u8 rfl x).symm
    | negSucc x => rfl
  · cases n with
    | ofNat x => exact (wrapU .u32 rfl x).symm
    | negSucc x => rfl
  · cases n with
    | ofNat x => exact (wrapU .u64 rfl x).symm
    | negSucc x => rfl


/-! Arithmetic, by the operator. -/
def iB (f : IntKind → Int → Int → Option Value) (x y : Value) : Option Value :=
  match x, y with
  | .int k a, .int k' b => bif samek k k' then f k a b else none
  | _, _ => none
def cB (f : Int → Int → Bool) (g : List UInt8 → List UInt8 → Bool) (x y : Value) : Option Value :=
  match x, y with
  | .int k a, .int k' b => bif samek k k' then some (.bool (f a b)) else none
  | .string a, .string b => some (.bool (g a.data.toList b.data.toList))
  | _, _ => none
def u8eq (a b : UInt8) : Bool := Nat.beq a.toNat b.toNat
def bytesEq : List UInt8 → List UInt8 → Bool
  | [], [] => true
  | a :: r, b :: s => bif u8eq a b then bytesEq r s else false
  | _, _ => false
theorem bytesEq_eq : ∀ a b : List UInt8, bytesEq a b = (a == b)
  | [], [] => rfl
  | [], _ :: _ => rfl
  | _ :: _, [] => rfl
  | a :: r, b :: s => by
    have h : u8eq a b = (a == b) := by
      rw [Bool.eq_iff_iff]
      simp [u8eq, UInt8.toNat_inj]
    simp only [bytesEq, h, bytesEq_eq r s, List.cons_beq_cons]
    cases (a == b) <;> rfl
def aeq (x y : Value) : Option Value := cB eqF bytesEq x y
def aneq (x y : Value) : Option Value := cB (fun a b => !eqF a b) (fun a b => !bytesEq a b) x y
def alss (x y : Value) : Option Value := cB ltF (fun a b => Op.bytesLess a b) x y
def aleq (x y : Value) : Option Value := cB (fun a b => !ltF b a) (fun a b => Op.bytesLess a b || a == b) x y
def agtr (x y : Value) : Option Value := cB (fun a b => ltF b a) (fun a b => !(Op.bytesLess a b || a == b)) x y
def ageq (x y : Value) : Option Value := cB (fun a b => !ltF a b) (fun a b => !(Op.bytesLess a b)) x y
def addF : Int → Int → Int
  | .ofNat a, .ofNat b => .ofNat (a + b)
  | a, b => a + b
def subF : Int → Int → Int
  | .ofNat a, .ofNat b => bif Nat.ble b a then .ofNat (a - b) else .ofNat a - .ofNat b
  | a, b => a - b
def mulF : Int → Int → Int
  | .ofNat a, .ofNat b => .ofNat (a * b)
  | a, b => a * b
theorem addF_eq (a b : Int) : addF a b = a + b := by cases a <;> cases b <;> rfl
theorem mulF_eq (a b : Int) : mulF a b = a * b := by cases a <;> cases b <;> rfl
theorem subF_eq (a b : Int) : subF a b = a - b := by
  cases a <;> cases b <;> try rfl
  rename_i x y
  simp only [subF]
  cases h : Nat.ble y x with
  | false => rfl
  | true =>
    have := Nat.le_of_ble_eq_true h
    show Int.ofNat (x - y) = Int.ofNat x - Int.ofNat y
    simp only [Int.ofNat_eq_natCast]
    omega
/-- The two numbers' bits, where both are no less than 0 and fit. -/
def bitF (f : Nat → Nat → Nat) (g : IntKind → Int → Int → Int) (k : IntKind) (a b : Int) : Int :=
  match a, b with
  | .ofNat x, .ofNat y => bif Nat.blt x (Nat.pow 2 k.bits) && Nat.blt y (Nat.pow 2 k.bits) then wrapF k (.ofNat (f x y)) else g k a b
  | _, _ => g k a b
def andG (k : IntKind) (a b : Int) : Int := k.wrap (BitVec.ofInt k.bits a &&& BitVec.ofInt k.bits b).toNat
def orG (k : IntKind) (a b : Int) : Int := k.wrap (BitVec.ofInt k.bits a ||| BitVec.ofInt k.bits b).toNat
def xorG (k : IntKind) (a b : Int) : Int := k.wrap (BitVec.ofInt k.bits a ^^^ BitVec.ofInt k.bits b).toNat
theorem ofInt_nat (n x : Nat) (h : x < 2 ^ n) : (BitVec.ofInt n (Int.ofNat x)).toNat = x := by
  rw [BitVec.toNat_ofInt]
  have : (Int.ofNat x % (2 ^ n : Nat)) = Int.ofNat (x % 2 ^ n) := rfl
  rw [this, Nat.mod_eq_of_lt h]
  rfl
theorem bitF_eq {f : Nat → Nat → Nat} {g : IntKind → Int → Int → Int} (h : ∀ k x y, x < 2 ^ k.bits → y < 2 ^ k.bits → g k (.ofNat x) (.ofNat y) = k.wrap (.ofNat (f x y))) (k : IntKind) (a b : Int) : bitF f g k a b = g k a b := by
  unfold bitF
  split
  · rename_i x y
    cases hc : (Nat.blt x (Nat.pow 2 k.bits) && Nat.blt y (Nat.pow 2 k.bits)) with
    | false => rfl
    | true =>
      simp only [Bool.and_eq_true, Nat.blt_eq] at hc
      rw [cond_true, wrapF_eq, h k x y hc.1 hc.2]
  · rfl
def andF := bitF Nat.land andG
def orF := bitF Nat.lor orG
def xorF := bitF Nat.xor xorG
theorem andF_eq (k : IntKind) (a b : Int) : andF k a b = andG k a b := bitF_eq (fun k x y hx hy => by
  unfold andG; rw [BitVec.toNat_and, ofInt_nat _ _ hx, ofInt_nat _ _ hy]; rfl) k a b
theorem orF_eq (k : IntKind) (a b : Int) : orF k a b = orG k a b := bitF_eq (fun k x y hx hy => by
  unfold orG; rw [BitVec.toNat_or, ofInt_nat _ _ hx, ofInt_nat _ _ hy]; rfl) k a b
theorem xorF_eq (k : IntKind) (a b : Int) : xorF k a b = xorG k a b := bitF_eq (fun k x y hx hy => by
  unfold xorG; rw [BitVec.toNat_xor, ofInt_nat _ _ hx, ofInt_nat _ _ hy]; rfl) k a b
def aadd := iB fun k a b => some (.int k (wrapF k (addF a b)))
def asub := iB fun k a b => some (.int k (wrapF k (subF a b)))
def amul := iB fun k a b => some (.int k (wrapF k (mulF a b)))
def aand := iB fun k a b => some (.int k (andF k a b))
def aor := iB fun k a b => some (.int k (orF k a b))
def axor := iB fun k a b => some (.int k (xorF k a b))
def ashr (x y : Value) : Option Value :=
  match x, y with
  | .int k (.ofNat a), .int _ (.ofNat b) => some (.int k (.ofNat (a / 2 ^ (Nat.min b k.bits))))
  | x, y => abin .shr x y
def aquo := iB fun k a b => match a, b with
  | .ofNat x, .ofNat (y + 1) => some (.int k (wrapF k (.ofNat (x / (y + 1)))))
  | _, _ => if b = 0 then none else some (.int k (k.wrap (a.tdiv b)))
def arem := iB fun k a b => match a, b with
  | .ofNat x, .ofNat (y + 1) => some (.int k (.ofNat (x % (y + 1))))
  | _, _ => if b = 0 then none else some (.int k (a.tmod b))
def abinF (op : BinOp) : Value → Value → Option Value :=
  match op with
  | .add => aadd
  | .sub => asub
  | .mul => amul
  | .eql => aeq
  | .neq => aneq
  | .lss => alss
  | .leq => aleq
  | .gtr => agtr
  | .geq => ageq
  | .and => aand
  | .or => aor
  | .xor => axor
  | .shr => ashr
  | .quo => aquo
  | .rem => arem
  | op => abin op
theorem ite_samek {α : Type} (k k' : IntKind) (x : Option α) : (bif samek k k' then x else none) = if k ≠ k' then none else x := by
  rw [samek_eq]
  by_cases h : k = k' <;> simp [h]
theorem leF (a b : Int) : (!ltF b a) = decide (a ≤ b) := by
  rw [ltF_eq, Bool.eq_iff_iff]; simp
theorem abinF_eq (op : BinOp) (x y : Value) : abinF op x y = abin op x y := by
  have cmp : ∀ (op : BinOp) (f : Int → Int → Bool) (g : List UInt8 → List UInt8 → Bool), (∀ k a k' b, abin op (.int k a) (.int k' b) = if k ≠ k' then none else some (.bool (f a b))) →
      (∀ a b : ByteArray, abin op (.string a) (.string b) = some (.bool (g a.data.toList b.data.toList))) → cB f g x y = abin op x y := by
    intro op f g h1 h2
    unfold cB
    split
    · rw [ite_samek, h1]
    · rw [h2]
    · rename_i h3 h4
      cases x <;> cases y <;> first | rfl | exact absurd rfl (h3 _ _ _ _ rfl) | exact absurd rfl (h4 _ _ rfl)
  have ari : ∀ (op : BinOp) (f : IntKind → Int → Int → Option Value), (∀ k a k' b, abin op (.int k a) (.int k' b) = if k ≠ k' then none else f k a b) → (∀ a b : ByteArray, abin op (.string a) (.string b) = none) → iB f x y = abin op x y := by
    intro op f h1 h2
    unfold iB
    split
    · rw [ite_samek, h1]
    · rename_i h3
      cases x <;> cases y <;> first | rfl | exact (h2 _ _).symm | exact absurd rfl (h3 _ _ _ _ rfl)
  have quo : aquo x y = abin .quo x y := ari .quo _ (fun k a k' b => by
    by_cases h : k = k'
    · subst h
      simp only [abin, ne_eq, not_true_eq_false, if_false]
      cases a with
      | negSucc x => rfl
      | ofNat x =>
        cases b with
        | negSucc y => rfl
        | ofNat y =>
          cases y with
          | zero => rfl
          | succ y =>
            rw [if_neg (by simp; omega)]
            simp only [wrapF_eq]
            rfl
    · simp [abin, h]) (fun _ _ => rfl)
  have rem : arem x y = abin .rem x y := ari .rem _ (fun k a k' b => by
    by_cases h : k = k'
    · subst h
      simp only [abin, ne_eq, not_true_eq_false, if_false]
      cases a with
      | negSucc x => rfl
      | ofNat x =>
        cases b with
        | negSucc y => rfl
        | ofNat y =>
          cases y with
          | zero => rfl
          | succ y =>
            rw [if_neg (by simp; omega)]
            rfl
    · simp [abin, h]) (fun _ _ => rfl)
  have shr : ashr x y = abin .shr x y := by
    unfold ashr
    split
    · rename_i k a k' b
      simp only [abin]
      rw [if_neg (by simp)]
      have e : (2 ^ Nat.min (Int.ofNat b).toNat k.bits : Int) = ((2 ^ Nat.min b k.bits : Nat) : Int) := by
        rw [Int.natCast_pow]; rfl
      rw [e, Int.fdiv_eq_ediv_of_nonneg _ (Int.natCast_nonneg _)]
      rfl
    · rfl
  cases op
  case quo => exact quo
  case rem => exact rem
  case shr => exact shr
  case eql => exact cmp .eql _ _ (fun k a k' b => by simp only [eqF_eq]; rfl) (fun a b => by simp only [bytesEq_eq]; rfl)
  case neq => exact cmp .neq (fun a b => !eqF a b) (fun a b => !bytesEq a b) (fun k a k' b => by simp only [eqF_eq]; rfl) (fun a b => by simp only [bytesEq_eq]; rfl)
  case lss => exact cmp .lss _ _ (fun k a k' b => by simp only [ltF_eq]; rfl) (fun a b => rfl)
  case leq => exact cmp .leq (fun a b => !ltF b a) (fun a b => Op.bytesLess a b || a == b) (fun k a k' b => by simp only [leF]; rfl) (fun a b => rfl)
  case gtr => exact cmp .gtr (fun a b => ltF b a) (fun a b => !(Op.bytesLess a b || a == b)) (fun k a k' b => by simp only [ltF_eq]; rfl) (fun a b => rfl)
  case geq => exact cmp .geq (fun a b => !ltF a b) (fun a b => !(Op.bytesLess a b)) (fun k a k' b => by simp only [leF]; rfl) (fun a b => rfl)
  all_goals first
    | exact ari _ _ (fun k a k' b => by simp only [wrapF_eq, addF_eq, subF_eq, mulF_eq, andF_eq, orF_eq, xorF_eq]; rfl) (fun _ _ => rfl)
    | rfl

end Go.Am
