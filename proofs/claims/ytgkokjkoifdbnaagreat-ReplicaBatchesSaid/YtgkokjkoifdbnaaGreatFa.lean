import Derived.Test.YtgkokjkoifdbnaaGreatAm0
/- The interpreter's parts again, so told that Lean's kernel goes fast; each is what it was. -/
namespace Go.Am
set_option autoImplicit false
set_option linter.unusedVariables false

theorem rec_bif {α : Sort _} (b : Bool) (x y : α) : Bool.rec (motive := fun _ => α) y x b = (bif b then x else y) := by cases b <;> rfl
noncomputable def tgetF (t : TM) : Nat → AV :=
  TM.rec (motive := fun _ => Nat → AV) (fun _ => aundef) (fun a n => Nat.rec (motive := fun _ => AV) a (fun _ _ => aundef) n) (fun _ _ il ir n => Nat.rec (motive := fun _ => AV) (il (Nat.div n 2)) (fun _ _ => ir (Nat.div n 2)) (Nat.mod n 2)) t
theorem tgetF_eq (t : TM) : tgetF t = tget t := by
  induction t with
  | nil => rfl
  | one a => funext n; cases n <;> rfl
  | two l r il ir =>
    funext n
    show Nat.rec (motive := fun _ => AV) (tgetF l (Nat.div n 2)) (fun _ _ => tgetF r (Nat.div n 2)) (Nat.mod n 2) = bif Nat.beq (n % 2) 0 then tget l (n / 2) else tget r (n / 2)
    rw [il, ir]
    show Nat.rec (motive := fun _ => AV) (tget l (n / 2)) (fun _ _ => tget r (n / 2)) (n % 2) = _
    cases n % 2 <;> rfl
noncomputable def AO.evF (x : AO) : TM → AV := AO.rec (motive := fun _ => TM → AV) (fun i tm => tgetF tm i) (fun a _ => a) x
theorem evF_eq (x : AO) (tm : TM) : x.evF tm = x.ev tm := by
  cases x with
  | t i => show tgetF tm i = _; rw [tgetF_eq]; rfl
  | c a => rfl

def ltF : Int → Int → Bool
  | .ofNat x, .ofNat y => Nat.blt x y
  | .negSucc _, .ofNat _ => true
  | .ofNat _, .negSucc _ => false
  | .negSucc x, .negSucc y => Nat.blt y x
def eqF : Int → Int → Bool
  | .ofNat x, .ofNat y => Nat.beq x y
  | .negSucc x, .negSucc y => Nat.beq x y
  | _, _ => false
theorem ltF_eq (a b : Int) : ltF a b = decide (a < b) := by
  cases a <;> cases b <;> simp only [ltF]
  · rename_i x y
    rw [Bool.eq_iff_iff, Nat.blt_eq, decide_eq_true_eq]; exact Int.ofNat_lt.symm
  · rename_i x y; symm; simp; omega
  · rename_i x y; symm; simp; omega
  · rename_i x y
    rw [Bool.eq_iff_iff]; simp only [Nat.blt_eq, decide_eq_true_eq]; omega
theorem eqF_eq (a b : Int) : eqF a b = (a == b) := by
  cases a <;> cases b <;> simp only [eqF]
  · rename_i x y; rw [Bool.eq_iff_iff]; simp; omega
  · rename_i x y; symm; simp
  · rename_i x y; symm; simp
  · rename_i x y; rw [Bool.eq_iff_iff]; simp
def samek : IntKind → IntKind → Bool
  | .i64, .i64 => true
  | .u8, .u8 => true
  | .u64, .u64 => true
  | .u32, .u32 => true
  | a, b => decide (a = b)
theorem samek_eq (a b : IntKind) : samek a b = decide (a = b) := by cases a <;> cases b <;> rfl
def p63 : Nat := 9223372036854775808
def p64 : Nat := 18446744073709551616
def wrapF (k : IntKind) (n : Int) : Int :=
  match k with
  | .i64 => match n with
    | .ofNat x => bif Nat.blt x 9223372036854775808 then .ofNat x else IntKind.wrap .i64 n
    | .negSucc x => bif Nat.blt x 9223372036854775808 then .negSucc x else IntKind.wrap .i64 n
  | .u8 => match n with
    | .ofNat x => .ofNat (x % 256)
    | _ => IntKind.wrap .u8 n
  | .u32 => match n with
    | .ofNat x => .ofNat (x % 4294967296)
    | _ => IntKind.wrap .u32 n
  | .u64 => match n with
    | .ofNat x => .ofNat (x % 18446744073709551616)
    | _ => IntKind.wrap .u64 n
  | k => k.wrap n
theorem pow64 : (2 ^ 64 : Int) = 18446744073709551616 := by decide
theorem pow63 : (2 ^ 63 : Int) = 9223372036854775808 := by decide
theorem wrap64 (n : Int) : IntKind.wrap .i64 n = if n % 18446744073709551616 ≥ 9223372036854775808 then n % 18446744073709551616 - 18446744073709551616 else n % 18446744073709551616 := by
  show (if (true && decide (n % (2 ^ 64 : Int) ≥ (2 ^ 63 : Int))) = true then n % (2 ^ 64 : Int) - (2 ^ 64 : Int) else n % (2 ^ 64 : Int)) = _
  rw [pow64, pow63]
  simp only [Bool.true_and, decide_eq_true_eq]
theorem wrapU (k : IntKind) (h : k.signed = false) (x : Nat) : k.wrap (Int.ofNat x) = Int.ofNat (x % 2 ^ k.bits) := by
  unfold IntKind.wrap
  simp only [h, Bool.false_and, Bool.false_eq_true, if_false]
  rfl
theorem wrapF_eq (k : IntKind) (n : Int) : wrapF k n = k.wrap n := by
  cases k <;> try rfl
  · -- i64
    rw [wrap64]
    cases n with
    | ofNat x =>
      simp only [wrapF]
      cases h : Nat.blt x 9223372036854775808 with
      | false => rw [cond_false, wrap64]
      | true =>
        rw [Nat.blt_eq] at h
        rw [cond_true]
        have e : Int.ofNat x % 18446744073709551616 = Int.ofNat x := Int.emod_eq_of_lt (by simp) (by simp; omega)
        rw [e, if_neg]
        simp; omega
    | negSucc x =>
      simp only [wrapF]
      cases h : Nat.blt x 9223372036854775808 with
      | false => rw [cond_false, wrap64]
      | true =>
        rw [Nat.blt_eq] at h
        rw [cond_true]
        have e : Int.negSucc x % 18446744073709551616 = Int.negSucc x + 18446744073709551616 := by omega
        rw [e, if_pos (by omega)]
        omega
  · cases n with
    | ofNat x => exact (wrapU .u8 rfl x).symm
    | negSucc x => rfl
  · cases n with
    | ofNat x => exact (wrapU .u32 rfl x).symm
    | negSucc x => rfl
  · cases n with
    | ofNat x => exact (wrapU .u64 rfl x).symm
    | negSucc x => rfl


/-! Arithmetic, by the operator. -/
def iB (f : IntKind → Int → Int → Option Value) (x y : Value) : Option Value :=
  match x, y with
  | .int k a, .int k' b => bif samek k k' then f k a b else none
  | _, _ => none
def cB (f : Int → Int → Bool) (g : List UInt8 → List UInt8 → Bool) (x y : Value) : Option Value :=
  match x, y with
  | .int k a, .int k' b => bif samek k k' then some (.bool (f a b)) else none
  | .string a, .string b => some (.bool (g a.data.toList b.data.toList))
  | _, _ => none
def u8eq (a b : UInt8) : Bool := Nat.beq a.toNat b.toNat
def bytesEq : List UInt8 → List UInt8 → Bool
  | [], [] => true
  | a :: r, b :: s => bif u8eq a b then bytesEq r s else false
  | _, _ => false
theorem bytesEq_eq : ∀ a b : List UInt8, bytesEq a b = (a == b)
  | [], [] => rfl
  | [], _ :: _ => rfl
  | _ :: _, [] => rfl
  | a :: r, b :: s => by
    have h : u8eq a b = (a == b) := by
      rw [Bool.eq_iff_iff]
      simp [u8eq, UInt8.toNat_inj]
    simp only [bytesEq, h, bytesEq_eq r s, List.cons_beq_cons]
    cases (a == b) <;> rfl
def aeq (x y : Value) : Option Value := cB eqF bytesEq x y
def aneq (x y : Value) : Option Value := cB (fun a b => !eqF a b) (fun a b => !bytesEq a b) x y
def alss (x y : Value) : Option Value := cB ltF (fun a b => Op.bytesLess a b) x y
def aleq (x y : Value) : Option Value := cB (fun a b => !ltF b a) (fun a b => Op.bytesLess a b || a == b) x y
def agtr (x y : Value) : Option Value := cB (fun a b => ltF b a) (fun a b => !(Op.bytesLess a b || a == b)) x y
def ageq (x y : Value) : Option Value := cB (fun a b => !ltF a b) (fun a b => !(Op.bytesLess a b)) x y
def addF : Int → Int → Int
  | .ofNat a, .ofNat b => .ofNat (a + b)
  | a, b => a + b
def subF : Int → Int → Int
  | .ofNat a, .ofNat b => bif Nat.ble b a then .ofNat (a - b) else .ofNat a - .ofNat b
  | a, b => a - b
def mulF : Int → Int → Int
  | .ofNat a, .ofNat b => .ofNat (a * b)
  | a, b => a * b
theorem addF_eq (a b : Int) : addF a b = a + b := by cases a <;> cases b <;> rfl
theorem mulF_eq (a b : Int) : mulF a b = a * b := by cases a <;> cases b <;> rfl
theorem subF_eq (a b : Int) : subF a b = a - b := by
  cases a <;> cases b <;> try rfl
  rename_i x y
  simp only [subF]
  cases h : Nat.ble y x with
  | false => rfl
  | true =>
    have := Nat.le_of_ble_eq_true h
    show Int.ofNat (x - y) = Int.ofNat x - Int.ofNat y
    simp only [Int.ofNat_eq_natCast]
    omega
/-- The two numbers' bits, where both are no less than 0 and fit. -/
def bitF (f : Nat → Nat → Nat) (g : IntKind → Int → Int → Int) (k : IntKind) (a b : Int) : Int :=
  match a, b with
  | .ofNat x, .ofNat y => bif Nat.blt x (Nat.pow 2 k.bits) && Nat.blt y (Nat.pow 2 k.bits) then wrapF k (.ofNat (f x y)) else g k a b
  | _, _ => g k a b
def andG (k : IntKind) (a b : Int) : Int := k.wrap (BitVec.ofInt k.bits a &&& BitVec.ofInt k.bits b).toNat
def orG (k : IntKind) (a b : Int) : Int := k.wrap (BitVec.ofInt k.bits a ||| BitVec.ofInt k.bits b).toNat
def xorG (k : IntKind) (a b : Int) : Int := k.wrap (BitVec.ofInt k.bits a ^^^ BitVec.ofInt k.bits b).toNat
theorem ofInt_nat (n x : Nat) (h : x < 2 ^ n) : (BitVec.ofInt n (Int.ofNat x)).toNat = x := by
  rw [BitVec.toNat_ofInt]
  have : (Int.ofNat x % (2 ^ n : Nat)) = Int.ofNat (x % 2 ^ n) := rfl
  rw [this, Nat.mod_eq_of_lt h]
  rfl
theorem bitF_eq {f : Nat → Nat → Nat} {g : IntKind → Int → Int → Int} (h : ∀ k x y, x < 2 ^ k.bits → y < 2 ^ k.bits → g k (.ofNat x) (.ofNat y) = k.wrap (.ofNat (f x y))) (k : IntKind) (a b : Int) : bitF f g k a b = g k a b := by
  unfold bitF
  split
  · rename_i x y
    cases hc : (Nat.blt x (Nat.pow 2 k.bits) && Nat.blt y (Nat.pow 2 k.bits)) with
    | false => rfl
    | true =>
      simp only [Bool.and_eq_true, Nat.blt_eq] at hc
      rw [cond_true, wrapF_eq, h k x y hc.1 hc.2]
  · rfl
def andF := bitF Nat.land andG
def orF := bitF Nat.lor orG
def xorF := bitF Nat.xor xorG
theorem andF_eq (k : IntKind) (a b : Int) : andF k a b = andG k a b := bitF_eq (fun k x y hx hy => by
  unfold andG; rw [BitVec.toNat_and, ofInt_nat _ _ hx, ofInt_nat _ _ hy]; rfl) k a b
theorem orF_eq (k : IntKind) (a b : Int) : orF k a b = orG k a b := bitF_eq (fun k x y hx hy => by
  unfold orG; rw [BitVec.toNat_or, ofInt_nat _ _ hx, ofInt_nat _ _ hy]; rfl) k a b
theorem xorF_eq (k : IntKind) (a b : Int) : xorF k a b = xorG k a b := bitF_eq (fun k x y hx hy => by
  unfold xorG; rw [BitVec.toNat_xor, ofInt_nat _ _ hx, ofInt_nat _ _ hy]; rfl) k a b
def aadd := iB fun k a b => some (.int k (wrapF k (addF a b)))
def asub := iB fun k a b => some (.int k (wrapF k (subF a b)))
def amul := iB fun k a b => some (.int k (wrapF k (mulF a b)))
def aand := iB fun k a b => some (.int k (andF k a b))
def aor := iB fun k a b => some (.int k (orF k a b))
def axor := iB fun k a b => some (.int k (xorF k a b))
def ashr (x y : Value) : Option Value :=
  match x, y with
  | .int k (.ofNat a), .int _ (.ofNat b) => some (.int k (.ofNat (a / 2 ^ (Nat.min b k.bits))))
  | x, y => abin .shr x y
def aquo := iB fun k a b => match a, b with
  | .ofNat x, .ofNat (y + 1) => some (.int k (wrapF k (.ofNat (x / (y + 1)))))
  | _, _ => if b = 0 then none else some (.int k (k.wrap (a.tdiv b)))
def arem := iB fun k a b => match a, b with
  | .ofNat x, .ofNat (y + 1) => some (.int k (.ofNat (x % (y + 1))))
  | _, _ => if b = 0 then none else some (.int k (a.tmod b))
def abinF (op : BinOp) : Value → Value → Option Value :=
  match op with
  | .add => aadd
  | .sub => asub
  | .mul => amul
  | .eql => aeq
  | .neq => aneq
  | .lss => alss
  | .leq => aleq
  | .gtr => agtr
  | .geq => ageq
  | .and => aand
  | .or => aor
  | .xor => axor
  | .shr => ashr
  | .quo => aquo
  | .rem => arem
  | op => abin op
theorem ite_samek {α : Type} (k k' : IntKind) (x : Option α) : (bif samek k k' then x else none) = if k ≠ k' then none else x := by
  rw [samek_eq]
  by_cases h : k = k' <;> simp [h]
theorem leF (a b : Int) : (!ltF b a) = decide (a ≤ b) := by
  rw [ltF_eq, Bool.eq_iff_iff]; simp
theorem abinF_eq (op : BinOp) (x y : Value) : abinF op x y = abin op x y := by
  have cmp : ∀ (op : BinOp) (f : Int → Int → Bool) (g : List UInt8 → List UInt8 → Bool), (∀ k a k' b, abin op (.int k a) (.int k' b) = if k ≠ k' then none else some (.bool (f a b))) →
      (∀ a b : ByteArray, abin op (.string a) (.string b) = some (.bool (g a.data.toList b.data.toList))) → cB f g x y = abin op x y := by
    intro op f g h1 h2
    unfold cB
    split
    · rw [ite_samek, h1]
    · rw [h2]
    · rename_i h3 h4
      cases x <;> cases y <;> first | rfl | exact absurd rfl (h3 _ _ _ _ rfl) | exact absurd rfl (h4 _ _ rfl)
  have ari : ∀ (op : BinOp) (f : IntKind → Int → Int → Option Value), (∀ k a k' b, abin op (.int k a) (.int k' b) = if k ≠ k' then none else f k a b) → (∀ a b : ByteArray, abin op (.string a) (.string b) = none) → iB f x y = abin op x y := by
    intro op f h1 h2
    unfold iB
    split
    · rw [ite_samek, h1]
    · rename_i h3
      cases x <;> cases y <;> first | rfl | exact (h2 _ _).symm | exact absurd rfl (h3 _ _ _ _ rfl)
  have quo : aquo x y = abin .quo x y := ari .quo _ (fun k a k' b => by
    by_cases h : k = k'
    · subst h
      simp only [abin, ne_eq, not_true_eq_false, if_false]
      cases a with
      | negSucc x => rfl
      | ofNat x =>
        cases b with
        | negSucc y => rfl
        | ofNat y =>
          cases y with
          | zero => rfl
          | succ y =>
            rw [if_neg (by simp; omega)]
            simp only [wrapF_eq]
            rfl
    · simp [abin, h]) (fun _ _ => rfl)
  have rem : arem x y = abin .rem x y := ari .rem _ (fun k a k' b => by
    by_cases h : k = k'
    · subst h
      simp only [abin, ne_eq, not_true_eq_false, if_false]
      cases a with
      | negSucc x => rfl
      | ofNat x =>
        cases b with
        | negSucc y => rfl
        | ofNat y =>
          cases y with
          | zero => rfl
          | succ y =>
            rw [if_neg (by simp; omega)]
            rfl
    · simp [abin, h]) (fun _ _ => rfl)
  have shr : ashr x y = abin .shr x y := by
    unfold ashr
    split
    · rename_i k a k' b
      simp only [abin]
      rw [if_neg (by simp)]
      have e : (2 ^ Nat.min (Int.ofNat b).toNat k.bits : Int) = ((2 ^ Nat.min b k.bits : Nat) : Int) := by
        rw [Int.natCast_pow]; rfl
      rw [e, Int.fdiv_eq_ediv_of_nonneg _ (Int.natCast_nonneg _)]
      rfl
    · rfl
  cases op
  case quo => exact quo
  case rem => exact rem
  case shr => exact shr
  case eql => exact cmp .eql _ _ (fun k a k' b => by simp only [eqF_eq]; rfl) (fun a b => by simp only [bytesEq_eq]; rfl)
  case neq => exact cmp .neq (fun a b => !eqF a b) (fun a b => !bytesEq a b) (fun k a k' b => by simp only [eqF_eq]; rfl) (fun a b => by simp only [bytesEq_eq]; rfl)
  case lss => exact cmp .lss _ _ (fun k a k' b => by simp only [ltF_eq]; rfl) (fun a b => rfl)
  case leq => exact cmp .leq (fun a b => !ltF b a) (fun a b => Op.bytesLess a b || a == b) (fun k a k' b => by simp only [leF]; rfl) (fun a b => rfl)
  case gtr => exact cmp .gtr (fun a b => ltF b a) (fun a b => !(Op.bytesLess a b || a == b)) (fun k a k' b => by simp only [ltF_eq]; rfl) (fun a b => rfl)
  case geq => exact cmp .geq (fun a b => !ltF a b) (fun a b => !(Op.bytesLess a b)) (fun k a k' b => by simp only [leF]; rfl) (fun a b => rfl)
  all_goals first
    | exact ari _ _ (fun k a k' b => by simp only [wrapF_eq, addF_eq, subF_eq, mulF_eq, andF_eq, orF_eq, xorF_eq]; rfl) (fun _ _ => rfl)
    | rfl

end Go.Am

/- Calls again, fast for Lean's kernel. -/
namespace Go.Am
set_option autoImplicit false
set_option linter.unusedVariables false

noncomputable def mapOF {α β : Type} (f : α → Option β) (l : List α) : Option (List β) :=
  List.rec (motive := fun _ => Option (List β)) (some []) (fun x _ ih => Option.rec (motive := fun _ => Option (List β)) none (fun y => Option.rec (motive := fun _ => Option (List β)) none (fun ys => some (y :: ys)) ih) (f x)) l
theorem mapOF_eq {α β : Type} (f : α → Option β) (l : List α) : mapOF f l = mapO f l := by
  induction l with
  | nil => rfl
  | cons x l ih =>
    show Option.rec (motive := fun _ => Option (List β)) none (fun y => Option.rec (motive := fun _ => Option (List β)) none (fun ys => some (y :: ys)) (mapOF f l)) (f x) = mapO f (x :: l)
    rw [ih]
    simp only [mapO]
    cases f x with
    | none => rfl
    | some y => cases mapO f l <;> rfl
noncomputable def hgetF (H : Heap) (c : Nat) : Option Ch :=
  List.rec (motive := fun _ => Option Ch) none (fun p _ ih => bif Nat.beq p.1 c then some p.2 else ih) H
theorem hgetF_eq (H : Heap) (c : Nat) : hgetF H c = hget H c := by
  induction H with
  | nil => rfl
  | cons p H ih =>
    show (bif Nat.beq p.1 c then some p.2 else hgetF H c) = hget (p :: H) c
    rw [ih]; rfl
noncomputable def dropF (l : List AV) (n : Nat) : List AV := Nat.rec (motive := fun _ => List AV → List AV) (fun l => l) (fun _ ih l => List.rec (motive := fun _ => List AV) [] (fun _ r _ => ih r) l) n l
theorem dropF_eq : ∀ (n : Nat) (l : List AV), dropF l n = l.drop n
  | 0, l => rfl
  | n + 1, [] => rfl
  | n + 1, a :: r => dropF_eq n r
noncomputable def takeF (l : List AV) (n : Nat) : List AV := List.rec (motive := fun _ => Nat → List AV) (fun _ => []) (fun a _ ih n => Nat.rec (motive := fun _ => List AV) [] (fun m _ => a :: ih m) n) l n
theorem takeF_eq : ∀ (l : List AV) (n : Nat), takeF l n = l.take n
  | [], n => by cases n <;> rfl
  | a :: r, 0 => rfl
  | a :: r, n + 1 => by
    show a :: takeF r n = a :: r.take n
    rw [takeF_eq r n]
noncomputable def lenF (l : List AV) : Nat := List.rec (motive := fun _ => Nat) 0 (fun _ _ ih => Nat.succ ih) l
theorem lenF_eq (l : List AV) : lenF l = l.length := by
  induction l with
  | nil => rfl
  | cons a l ih =>
    show Nat.succ (lenF l) = _
    rw [ih]; rfl
def keepV (fresh : Bool) (a : AV) : Option AV := some a
noncomputable def onceV (fresh : Bool) (a : AV) : Option AV := Bool.rec (motive := fun _ => Option AV) (some a) none fresh
noncomputable def addrV (p : Option Addr) : Bool → AV → Option AV := Option.rec (motive := fun _ => Bool → AV → Option AV) keepV (fun _ => onceV) p
noncomputable def atLeastF (n : Nat) : List AV → Bool := Nat.rec (motive := fun _ => List AV → Bool) (fun _ => true) (fun _ ih l => List.rec (motive := fun _ => Bool) false (fun _ r _ => ih r) l) n
theorem atLeastF_eq : ∀ (n : Nat) (l : List AV), atLeastF n l = Nat.ble n l.length
  | 0, l => (Nat.ble_eq_true_of_le (Nat.zero_le _)).symm
  | n + 1, [] => rfl
  | n + 1, a :: r => by
    show atLeastF n r = Nat.ble (n + 1) (r.length + 1)
    rw [atLeastF_eq n r]; rfl
noncomputable def frzV (fresh : Bool) (x : Value) (a : AV) : Option AV := Value.casesOn (motive_1 := fun _ => Bool → AV → Option AV) x (fun _ => keepV) (fun _ _ => keepV) (fun _ _ => keepV) (fun _ _ _ => keepV) (fun _ => keepV)
  (fun p => addrV p) (fun p _ _ => addrV p) (fun _ => keepV) (fun _ => keepV) (fun _ _ _ => keepV) keepV (fun _ _ => keepV) keepV (fun _ => keepV) (fun _ => keepV) fresh a
noncomputable def omap {α β : Type} (f : α → β) (o : Option α) : Option β := Option.rec (motive := fun _ => Option β) none (fun x => some (f x)) o
theorem omap_eq {α β : Type} (f : α → β) (o : Option α) : omap f o = o.map f := by cases o <;> rfl
noncomputable def z_v (x : Value) (ih : AV → Option AV) (fresh : Bool) (H : Heap) (a : AV) : Option AV := frzV fresh x a
noncomputable def z_ptr (c off : Nat) (ih : AV → Option AV) (fresh : Bool) (H : Heap) (a : AV) : Option AV := Option.rec (motive := fun _ => Option AV) none (fun ch => omap .eptr (mapOF ih (dropF ch.cells off))) (hgetF H c)
noncomputable def z_once {α : Type} (_ : α) (ih : AV → Option AV) (fresh : Bool) (H : Heap) (a : AV) : Option AV := Bool.rec (motive := fun _ => Option AV) (some a) none fresh
noncomputable def z_osl (c off len esz _lb : Nat) (ih : AV → Option AV) (fresh : Bool) (H : Heap) (a : AV) : Option AV := Option.rec (motive := fun _ => Option AV) none (fun ch => Bool.rec (motive := fun _ => Option AV) none (omap (.fsl len) (mapOF ih (takeF (dropF ch.cells off) (len * esz)))) (atLeastF (off + len * esz) ch.cells)) (hgetF H c)
noncomputable def z_fn (g : Nat) (caps : List AV) (ih : AV → Option AV) (fresh : Bool) (H : Heap) (a : AV) : Option AV := omap (.fn g) (mapOF ih caps)
noncomputable def z_agg (cs : List AV) (ih : AV → Option AV) (fresh : Bool) (H : Heap) (a : AV) : Option AV := omap .agg (mapOF ih cs)
noncomputable def z_tup (cs : List AV) (ih : AV → Option AV) (fresh : Bool) (H : Heap) (a : AV) : Option AV := omap .tup (mapOF ih cs)
noncomputable def zStep (ih : AV → Option AV) (fresh : Bool) (H : Heap) (a : AV) : Option AV :=
  AV.rec (motive_1 := fun _ => (AV → Option AV) → Bool → Heap → AV → Option AV) (motive_2 := fun _ => PUnit) z_v z_ptr (fun cs _ => z_once cs) z_osl (fun n _ _ => z_once n) (fun g cs _ => z_fn g cs) (fun cs _ => z_agg cs) (fun cs _ => z_tup cs) PUnit.unit (fun _ _ _ _ => PUnit.unit) a ih fresh H a
noncomputable def frzF (fresh : Bool) (H : Heap) (n : Nat) : AV → Option AV :=
  Nat.rec (motive := fun _ => AV → Option AV) (fun _ => none) (fun _ ih a => zStep ih fresh H a) n
theorem frzF_eq (fresh : Bool) (H : Heap) : ∀ n, frzF fresh H n = frz fresh H n
  | 0 => rfl
  | n + 1 => by
    funext a
    have ih := frzF_eq fresh H n
    show zStep (frzF fresh H n) fresh H a = _
    rw [ih]
    cases a with
    | v x =>
      show frzV fresh x (.v x) = _
      cases x with
      | pointer p => cases p <;> cases fresh <;> rfl
      | slice p _ _ => cases p <;> cases fresh <;> rfl
      | _ => rfl
    | ptr c off =>
      show z_ptr c off (frz fresh H n) fresh H (.ptr c off) = _
      unfold z_ptr
      rw [hgetF_eq]
      simp only [frz]
      cases hget H c with
      | none => rfl
      | some ch => simp only [omap_eq, mapOF_eq, dropF_eq]
    | eptr cs => show z_once cs (frz fresh H n) fresh H (.eptr cs) = _; cases fresh <;> rfl
    | osl c off len esz lb =>
      show z_osl c off len esz lb (frz fresh H n) fresh H (.osl c off len esz lb) = _
      unfold z_osl
      rw [hgetF_eq]
      simp only [frz]
      cases hget H c with
      | none => rfl
      | some ch =>
        simp only [omap_eq, mapOF_eq, dropF_eq, takeF_eq, atLeastF_eq]
        cases Nat.ble (off + len * esz) ch.cells.length <;> rfl
    | fsl m cs => show z_once m (frz fresh H n) fresh H (.fsl m cs) = _; cases fresh <;> rfl
    | fn g caps =>
      show omap (AV.fn g) (mapOF (frz fresh H n) caps) = _
      rw [omap_eq, mapOF_eq]; rfl
    | agg cs =>
      show omap AV.agg (mapOF (frz fresh H n) cs) = _
      rw [omap_eq, mapOF_eq]; rfl
    | tup cs =>
      show omap AV.tup (mapOF (frz fresh H n) cs) = _
      rw [omap_eq, mapOF_eq]; rfl
noncomputable def flatF (f : AV → List Nat → List Nat) (l : List AV) (acc : List Nat) : List Nat :=
  List.rec (motive := fun _ => List Nat) acc (fun a _ ih => f a ih) l
noncomputable def y_no (ih : AV → List Nat → List Nat) (H : Heap) (acc : List Nat) : List Nat := acc
noncomputable def y_ch (c : Nat) (ih : AV → List Nat → List Nat) (H : Heap) (acc : List Nat) : List Nat := c :: Option.rec (motive := fun _ => List Nat) acc (fun ch => flatF ih ch.cells acc) (hgetF H c)
noncomputable def y_l (cs : List AV) (ih : AV → List Nat → List Nat) (H : Heap) (acc : List Nat) : List Nat := flatF ih cs acc
noncomputable def yStep (ih : AV → List Nat → List Nat) (H : Heap) (a : AV) (acc : List Nat) : List Nat :=
  AV.rec (motive_1 := fun _ => (AV → List Nat → List Nat) → Heap → List Nat → List Nat) (motive_2 := fun _ => PUnit) (fun _ => y_no) (fun c _ => y_ch c) (fun _ _ => y_no) (fun c _ _ _ _ => y_ch c) (fun _ _ _ => y_no) (fun _ cs _ => y_l cs) (fun cs _ => y_l cs) (fun cs _ => y_l cs) PUnit.unit (fun _ _ _ _ => PUnit.unit) a ih H acc
noncomputable def reachF (H : Heap) (n : Nat) : AV → List Nat → List Nat :=
  Nat.rec (motive := fun _ => AV → List Nat → List Nat) (fun _ acc => acc) (fun _ ih a acc => yStep ih H a acc) n
theorem flatF_eq {f : AV → List Nat → List Nat} {g : AV → List Nat} (h : ∀ a acc, f a acc = g a ++ acc) (l : List AV) (acc : List Nat) : flatF f l acc = flatA g l ++ acc := by
  induction l with
  | nil => rfl
  | cons a l ih =>
    show f a (flatF f l acc) = _
    rw [h, ih]; simp [flatA]
theorem reachF_eq (H : Heap) : ∀ n a acc, reachF H n a acc = reachA H n a ++ acc
  | 0, a, acc => rfl
  | n + 1, a, acc => by
    have ih := reachF_eq H n
    have chunk : ∀ c, (c :: Option.rec (motive := fun _ => List Nat) acc (fun ch => flatF (reachF H n) ch.cells acc) (hgetF H c)) = c :: ((match hget H c with
        | none => []
        | some ch => flatA (reachA H n) ch.cells) ++ acc) := by
      intro c
      rw [hgetF_eq]
      cases hget H c with
      | none => rfl
      | some ch => simp only [flatF_eq ih]
    cases a with
    | v x => rfl
    | ptr c off => exact chunk c
    | eptr cs => rfl
    | osl c off len esz lb => exact chunk c
    | fsl _ _ => rfl
    | fn g cs => exact flatF_eq ih cs acc
    | agg cs => exact flatF_eq ih cs acc
    | tup cs => exact flatF_eq ih cs acc
noncomputable def memF (c : Nat) (l : List Nat) : Bool := List.rec (motive := fun _ => Bool) false (fun k _ ih => bif Nat.beq k c then true else ih) l
theorem memF_eq (c : Nat) (l : List Nat) : memF c l = memN c l := by
  induction l with
  | nil => rfl
  | cons k l ih =>
    show (bif Nat.beq k c then true else memF c l) = _
    rw [ih]; rfl
/-- The two parts of a memory. -/
noncomputable def partF (ids : List Nat) (H : Heap) : Heap × Heap :=
  List.rec (motive := fun _ => Heap × Heap) ([], []) (fun p _ ih => bif memF p.1 ids then (p :: ih.1, ih.2) else (ih.1, p :: ih.2)) H
theorem partF_eq (ids : List Nat) (H : Heap) : partF ids H = (hpart true ids H, hpart false ids H) := by
  induction H with
  | nil => rfl
  | cons p H ih =>
    show (bif memF p.1 ids then (p :: (partF ids H).1, (partF ids H).2) else ((partF ids H).1, p :: (partF ids H).2)) = _
    rw [ih, memF_eq]
    simp only [hpart]
    cases memN p.1 ids <;> rfl
noncomputable def liveF (l : List AV) : Bool := List.rec (motive := fun _ => Bool) false (fun a _ ih => bif live a then true else ih) l
theorem liveF_eq (l : List AV) : liveF l = live.liveL l := by
  induction l with
  | nil => rfl
  | cons a l ih =>
    show (bif live a then true else liveF l) = _
    rw [ih]
    simp only [live.liveL]
    cases live a <;> rfl
noncomputable def appF (a b : Heap) : Heap := List.rec (motive := fun _ => Heap) b (fun p _ ih => p :: ih) a
theorem appF_eq (a b : Heap) : appF a b = a ++ b := by
  induction a with
  | nil => rfl
  | cons p a ih =>
    show p :: appF a b = _
    rw [ih]; rfl
noncomputable def ownC (m : Bool → List AV → Option AV) (run : List AV → Option (AV × Heap × Nat)) (args : List AV) (H : Heap) (nx : Nat) : Option (AV × Heap × Nat) :=
  Option.rec (motive := fun _ => Option (AV × Heap × Nat)) none (fun args' =>
    Option.rec (motive := fun _ => Option (AV × Heap × Nat)) (Option.rec (motive := fun _ => Option (AV × Heap × Nat)) none (fun x => Option.rec (motive := fun _ => Option (AV × Heap × Nat)) none (fun r' => some (r', H, nx)) (frzF (liveF args) x.2.1 depthA x.1)) (run args'))
      (fun r' => some (r', H, nx)) (m (liveF args) args')) (mapOF (frzF false H depthA) args)
noncomputable def keepF (ids : List Nat) (H : Heap) : Heap :=
  List.rec (motive := fun _ => Heap) [] (fun p _ ih => bif memF p.1 ids then p :: ih else ih) H
theorem keepF_eq (ids : List Nat) (H : Heap) : keepF ids H = hpart true ids H := by
  induction H with
  | nil => rfl
  | cons p H ih =>
    show (bif memF p.1 ids then p :: keepF ids H else keepF ids H) = _
    rw [ih, memF_eq]
    simp only [hpart]
    cases memN p.1 ids <;> rfl
noncomputable def inC (args : List AV) (run : Heap → Option (AV × Heap × Nat)) (p : Heap × Heap) : Option (AV × Heap × Nat) :=
  Option.rec (motive := fun _ => Option (AV × Heap × Nat)) none (fun x => some (x.1, appF (keepF (flatF (reachF x.2.1 depthA) (x.1 :: args) []) x.2.1) p.2, x.2.2)) (run p.1)
noncomputable def callFF (T : Table) (ex : Exec) (id : Nat) (g : Nat) (args : List AV) (H : Heap) (nx : Nat) : Option (AV × Heap × Nat) :=
  match T g with
  | none => none
  | some (.prim p) => match p id args H with
    | none => none
    | some (r, H') => some (r, H', nx)
  | some (.code f m) => bif f.own then ownC m (fun args' => runF ex f args' [] 0) args H nx else inC args (fun h => runF ex f args h nx) (partF (flatF (reachF H depthA) args []) H)
theorem callFF_eq (T : Table) (ex : Exec) (id g : Nat) (args : List AV) (H : Heap) (nx : Nat) : callFF T ex id g args H nx = callF T ex id g args H nx := by
  unfold callFF callF
  cases T g with
  | none => rfl
  | some e =>
    cases e with
    | prim p => rfl
    | code f m =>
      simp only
      cases f.own with
      | true =>
        simp only [cond_true, ownC, mapOF_eq, frzF_eq, liveF_eq]
        cases mapO (frz false H depthA) args with
        | none => rfl
        | some args' =>
          simp only
          cases m (live.liveL args) args' with
          | some r => rfl
          | none =>
            simp only
            cases runF ex f args' [] 0 with
            | none => rfl
            | some x =>
              obtain ⟨r, H2, n2⟩ := x
              show Option.rec (motive := fun _ => Option (AV × Heap × Nat)) none (fun r' => some (r', H, nx)) (frz (live.liveL args) H2 depthA r) = (match frz (live.liveL args) H2 depthA r with
                | none => none
                | some r' => some (r', H, nx))
              cases frz (live.liveL args) H2 depthA r <;> rfl
      | false =>
        simp only [cond_false, inC, partF_eq, flatF_eq (reachF_eq H depthA), List.append_nil]
        cases runF ex f args (hpart true (flatA (reachA H depthA) args) H) nx with
        | none => rfl
        | some x => obtain ⟨r, H2, n2⟩ := x; simp only [appF_eq, keepF_eq, flatF_eq (reachF_eq H2 depthA), List.append_nil]

end Go.Am

/- Memory again, fast for Lean's kernel. -/
namespace Go.Am
set_option autoImplicit false
set_option linter.unusedVariables false

/-- Are there so many? -/
noncomputable def atLeast (n : Nat) : List AV → Bool := Nat.rec (motive := fun _ => List AV → Bool) (fun _ => true) (fun _ ih l => List.rec (motive := fun _ => Bool) false (fun _ r _ => ih r) l) n
theorem atLeast_eq : ∀ (n : Nat) (l : List AV), atLeast n l = Nat.ble n l.length
  | 0, l => by
    show true = Nat.ble 0 l.length
    exact (Nat.ble_eq_true_of_le (Nat.zero_le _)).symm
  | n + 1, [] => rfl
  | n + 1, a :: r => by
    show atLeast n r = Nat.ble (n + 1) (r.length + 1)
    rw [atLeast_eq n r]; rfl
noncomputable def nthF (l : List AV) (n : Nat) : Option AV := Nat.rec (motive := fun _ => List AV → Option AV) (fun l => List.rec (motive := fun _ => Option AV) none (fun a _ _ => some a) l) (fun _ ih l => List.rec (motive := fun _ => Option AV) none (fun _ r _ => ih r) l) n l
theorem nthF_eq : ∀ (n : Nat) (l : List AV), nthF l n = l[n]?
  | 0, [] => rfl
  | 0, a :: r => rfl
  | n + 1, [] => rfl
  | n + 1, a :: r => by
    show nthF r n = _
    rw [nthF_eq n r]; rfl
noncomputable def appA (a b : List AV) : List AV := List.rec (motive := fun _ => List AV) b (fun p _ ih => p :: ih) a
theorem appA_eq (a b : List AV) : appA a b = a ++ b := by
  induction a with
  | nil => rfl
  | cons p a ih =>
    show p :: appA a b = _
    rw [ih]; rfl
noncomputable def spliceF (cs : List AV) (off : Nat) (xs : List AV) : List AV :=
  Nat.rec (motive := fun _ => List AV → List AV) (fun l => appA xs (dropF l (lenF xs))) (fun _ ih l => List.rec (motive := fun _ => List AV) (appA xs []) (fun a r _ => a :: ih r) l) off cs
theorem spliceF_eq : ∀ (off : Nat) (cs xs : List AV), spliceF cs off xs = splice cs off xs
  | 0, cs, xs => by
    show appA xs (dropF cs (lenF xs)) = _
    simp [appA_eq, dropF_eq, lenF_eq, splice]
  | n + 1, [], xs => by
    show appA xs [] = _
    simp [appA_eq, splice]
  | n + 1, a :: r, xs => by
    show a :: spliceF r n xs = _
    rw [spliceF_eq n r xs]
    simp only [splice, List.take_succ_cons, List.cons_append, show n + 1 + xs.length = (n + xs.length) + 1 by omega, List.drop_succ_cons]
noncomputable def oneF (l : List AV) : Bool := List.rec (motive := fun _ => Bool) true (fun a _ ih => bif oneA a then ih else false) l
theorem oneF_eq (l : List AV) : oneF l = oneAll l := by
  induction l with
  | nil => rfl
  | cons a l ih =>
    show (bif oneA a then oneF l else false) = _
    rw [ih]
    simp only [oneAll]
    cases oneA a <;> rfl
noncomputable def hsetF (H : Heap) (c : Nat) (x : Ch) : Heap := List.rec (motive := fun _ => Heap) [] (fun p r ih => bif Nat.beq p.1 c then (p.1, x) :: r else p :: ih) H
theorem hsetF_eq (H : Heap) (c : Nat) (x : Ch) : hsetF H c x = hset H c x := by
  induction H with
  | nil => rfl
  | cons p H ih =>
    show (bif Nat.beq p.1 c then (p.1, x) :: H else p :: hsetF H c x) = _
    rw [ih]; rfl
noncomputable def hdelF (H : Heap) (c : Nat) : Heap := List.rec (motive := fun _ => Heap) [] (fun p r ih => bif Nat.beq p.1 c then ih else p :: ih) H
theorem hdelF_eq (H : Heap) (c : Nat) : hdelF H c = hdel H c := by
  induction H with
  | nil => rfl
  | cons p H ih =>
    show (bif Nat.beq p.1 c then hdelF H c else p :: hdelF H c) = _
    rw [ih]; rfl
noncomputable def cellsLoad (agg : Bool) (off sz : Nat) (cells : List AV) : Option AV :=
  bif agg then (bif atLeast (off + sz) cells then some (.agg (takeF (dropF cells off) sz)) else none) else nthF cells off
noncomputable def loadF (H : Heap) (agg : Bool) (sz : Nat) (a : AV) : Option AV :=
  AV.casesOn (motive_1 := fun _ => Option AV) a (fun _ => none) (fun c off => Option.rec (motive := fun _ => Option AV) none (fun ch => cellsLoad agg off sz ch.cells) (hgetF H c)) (fun cells => cellsLoad agg 0 sz cells) (fun _ _ _ _ _ => none) (fun _ _ => none) (fun _ _ => none) (fun _ => none) (fun _ => none)
theorem cellsLoad_eq (agg : Bool) (off sz : Nat) (cells : List AV) : cellsLoad agg off sz cells = bif agg then (bif Nat.ble (off + sz) cells.length then some (.agg ((cells.drop off).take sz)) else none) else cells[off]? := by
  simp only [cellsLoad, atLeast_eq, takeF_eq, dropF_eq, nthF_eq]
theorem loadF_eq (H : Heap) (agg : Bool) (sz : Nat) (a : AV) : loadF H agg sz a = loadA H agg sz a := by
  cases a with
  | ptr c off =>
    show Option.rec (motive := fun _ => Option AV) none (fun ch => cellsLoad agg off sz ch.cells) (hgetF H c) = _
    rw [hgetF_eq]
    simp only [loadA]
    cases hget H c with
    | none => rfl
    | some ch => simp only [cellsLoad_eq]
  | eptr cells =>
    show cellsLoad agg 0 sz cells = _
    rw [cellsLoad_eq]
    simp only [loadA, Nat.zero_add, List.drop_zero]
  | _ => rfl
noncomputable def storeF (H : Heap) (sz : Nat) (a x : AV) : Option Heap :=
  match a with
  | .ptr c off =>
    match hgetF H c with
    | none => none
    | some ch => bif Nat.beq (lenF x.cells) sz && atLeast (off + sz) ch.cells && oneF x.cells then some (hsetF H c { ch with cells := spliceF ch.cells off x.cells }) else none
  | _ => none
theorem storeF_eq (H : Heap) (sz : Nat) (a x : AV) : storeF H sz a x = storeA H sz a x := by
  cases a with
  | ptr c off =>
    simp only [storeF, storeA, hgetF_eq]
    cases hget H c with
    | none => rfl
    | some ch => simp only [lenF_eq, atLeast_eq, oneF_eq, hsetF_eq, spliceF_eq]
  | _ => rfl
noncomputable def elemsF (H : Heap) (esz n : Nat) (a : AV) : Option (List AV) :=
  match a with
  | .osl c off len e _ =>
    match hgetF H c with
    | none => none
    | some ch => bif Nat.beq e esz && Nat.ble n len && atLeast (off + n * esz) ch.cells then some (takeF (dropF ch.cells off) (n * esz)) else none
  | .fsl len cells => bif Nat.ble n len && atLeast (n * esz) cells then some (takeF cells (n * esz)) else none
  | a => elemsA H esz n a
theorem elemsF_eq (H : Heap) (esz n : Nat) (a : AV) : elemsF H esz n a = elemsA H esz n a := by
  cases a with
  | osl c off len e lb =>
    simp only [elemsF, elemsA, hgetF_eq]
    cases hget H c with
    | none => rfl
    | some ch => simp only [atLeast_eq, takeF_eq, dropF_eq]
  | fsl len cells => simp only [elemsF, elemsA, atLeast_eq, takeF_eq]
  | _ => rfl
noncomputable def appendF (id ty esz bytes : Nat) (H : Heap) (s x : AV) : Option (AV × Heap) :=
  match lenA x with
  | none => none
  | some k =>
    match elemsF H esz k x with
    | none => none
    | some new =>
      match s with
      | .v (.slice none 0 0) =>
        bif Nat.beq k 0 then some (s, H) else
        bif Nat.ble (2 * k * bytes) 281474976710656 && Nat.ble k 140737488355328 then some (.osl id 0 k esz k, (id, ⟨ty, new⟩) :: H) else none
      | .osl c off len e lb =>
        match hgetF H c with
        | none => none
        | some ch =>
          bif Nat.beq e esz && Nat.beq ch.ty ty && atLeast (off + len * esz) ch.cells && oneF new then
            bif Nat.beq k 0 then some (s, H) else
            bif Nat.ble (len + k) lb then
              bif atLeast (off + (len + k) * esz) ch.cells then some (.osl c off (len + k) esz lb, hsetF H c { ch with cells := spliceF ch.cells (off + len * esz) new }) else none
            else bif Nat.beq off 0 && Nat.ble (2 * (len + k) * bytes) 281474976710656 && Nat.ble (len + k) 140737488355328 then
              some (.osl id 0 (len + k) esz (len + k), (id, ⟨ty, appA (takeF ch.cells (len * esz)) new⟩) :: hdelF H c)
            else none
          else none
      | .fsl _ _ => bif Nat.beq k 0 then some (s, H) else none
      | _ => none
theorem appendF_eq (id ty esz bytes : Nat) (H : Heap) (s x : AV) : appendF id ty esz bytes H s x = appendA id ty esz bytes H s x := by
  unfold appendF appendA
  simp only [elemsF_eq, hgetF_eq, atLeast_eq, oneF_eq, hsetF_eq, spliceF_eq, appA_eq, takeF_eq, hdelF_eq]
  rfl
noncomputable def iaddrF (esz : Nat) (n : Int) (a : AV) : Option AV := match a with
  | .osl c off len e _ => bif ltF n 0 then none else bif ltF n (Int.ofNat len) && Nat.beq e esz then some (.ptr c (off + n.toNat * esz)) else none
  | .fsl len cells => bif ltF n 0 then none else bif ltF n (Int.ofNat len) then some (.eptr (dropF cells (n.toNat * esz))) else none
  | _ => none
theorem iaddrF_eq (esz : Nat) (n : Int) (a : AV) : iaddrF esz n a = iaddrA esz n a := by
  cases a with
  | osl c off len e lb =>
    simp only [iaddrF, iaddrA, ltF_eq]
    by_cases h0 : n < 0
    · rw [decide_eq_true h0, cond_true, if_neg (by omega)]
    · rw [decide_eq_false h0, cond_false]
      by_cases h1 : n < (len : Int)
      · rw [show decide (n < Int.ofNat len) = true from decide_eq_true h1, Bool.true_and]
        cases he : Nat.beq e esz with
        | true => rw [cond_true, if_pos ⟨by omega, h1, Nat.eq_of_beq_eq_true he⟩]
        | false => rw [cond_false, if_neg (fun h => by rw [h.2.2, Nat.beq_refl] at he; simp at he)]
      · rw [show decide (n < Int.ofNat len) = false from decide_eq_false h1, Bool.false_and, cond_false, if_neg (fun h => h1 h.2.1)]
  | fsl len cells =>
    simp only [iaddrF, iaddrA, ltF_eq, dropF_eq]
    by_cases h0 : n < 0
    · rw [decide_eq_true h0, cond_true, if_neg (by omega)]
    · rw [decide_eq_false h0, cond_false]
      by_cases h1 : n < (len : Int)
      · rw [show decide (n < Int.ofNat len) = true from decide_eq_true h1, cond_true, if_pos ⟨by omega, h1⟩]
      · rw [show decide (n < Int.ofNat len) = false from decide_eq_false h1, cond_false, if_neg (fun h => h1 h.2)]
  | _ => rfl
end Go.Am

/- One operation, arm by arm. -/
namespace Go.Am
set_option autoImplicit false
set_option linter.unusedVariables false

noncomputable def a_move (x : AO) (tm : TM) (id : Nat) (H : Heap) : Option Out :=  some (.val (x.evF tm) H)
noncomputable def a_pick (c : AO) (a : AO) (b : AO) (tm : TM) (id : Nat) (H : Heap) : Option Out :=  match boolA (c.evF tm) with
    | none => none
    | some t => some (.val (bif t then a.evF tm else b.evF tm) H)
noncomputable def a_alloc (ty : Nat) (zero : List AV) (tm : TM) (id : Nat) (H : Heap) : Option Out :=  some (.val (.ptr id 0) ((id, ⟨ty, zero⟩) :: H))
noncomputable def a_box (ty : Nat) (sz : Nat) (x : AO) (tm : TM) (id : Nat) (H : Heap) : Option Out :=  let cs := (x.evF tm).cells; bif Nat.beq cs.length sz then some (.val (.ptr id 0) ((id, ⟨ty, cs⟩) :: H)) else none
noncomputable def a_build (zero : List AV) (parts : List (Nat × Nat × AO)) (tm : TM) (id : Nat) (H : Heap) : Option Out :=  out H ((fillA zero (parts.map fun p => (p.1, p.2.1, (p.2.2.evF tm).cells))).map .agg)
noncomputable def a_buildSlice (ty : Nat) (esz : Nat) (len : Nat) (zero : List AV) (parts : List (Nat × Nat × AO)) (tm : TM) (id : Nat) (H : Heap) : Option Out :=
    match fillA (repA zero len) (parts.map fun p => (p.1, p.2.1, (p.2.2.evF tm).cells)) with
    | none => none
    | some cs => some (.val (.osl id 0 len esz len) ((id, ⟨ty, cs⟩) :: H))
noncomputable def a_load (agg : Bool) (sz : Nat) (x : AO) (tm : TM) (id : Nat) (H : Heap) : Option Out :=  out H (loadF H agg sz (x.evF tm))
noncomputable def a_store (sz : Nat) (a : AO) (x : AO) (tm : TM) (id : Nat) (H : Heap) : Option Out :=  (storeF H sz (a.evF tm) (x.evF tm)).map (.val aundef ·)
noncomputable def a_nilChk (x : AO) (tm : TM) (id : Nat) (H : Heap) : Option Out :=  match x.evF tm with
    | .ptr c off => some (.val (.ptr c off) H)
    | .eptr cs => some (.val (.eptr cs) H)
    | .fn g cs => some (.val (.fn g cs) H)
    | _ => none
noncomputable def a_bin (op : BinOp) (x : AO) (y : AO) (tm : TM) (id : Nat) (H : Heap) : Option Out :=  match x.evF tm, y.evF tm with
    | .v a, .v b => out H ((abinF op a b).map .v)
    | _, _ => none
noncomputable def a_beq (neg : Bool) (x : AO) (y : AO) (tm : TM) (id : Nat) (H : Heap) : Option Out :=  match x.evF tm, y.evF tm with
    | .v (.bool a), .v (.bool b) => some (.val (.v (.bool (bif neg then !(a == b) else a == b))) H)
    | _, _ => none
noncomputable def a_eqAgg (neg : Bool) (ks : List Nat) (x : AO) (y : AO) (tm : TM) (id : Nat) (H : Heap) : Option Out :=  match x.evF tm, y.evF tm with
    | .agg a, .agg b => out H ((eqCells ks a b).map fun r => .v (.bool (bif neg then !r else r)))
    | _, _ => none
noncomputable def a_eqNilS (neg : Bool) (x : AO) (tm : TM) (id : Nat) (H : Heap) : Option Out :=  match x.evF tm with
    | .v (.slice none _ _) => some (.val (.v (.bool !neg)) H)
    | .osl _ _ _ _ _ => some (.val (.v (.bool neg)) H)
    | .fsl _ _ => some (.val (.v (.bool neg)) H)
    | _ => none
noncomputable def a_eqNilP (neg : Bool) (x : AO) (tm : TM) (id : Nat) (H : Heap) : Option Out :=  match x.evF tm with
    | .v (.pointer none) => some (.val (.v (.bool !neg)) H)
    | .ptr _ _ => some (.val (.v (.bool neg)) H)
    | .eptr _ => some (.val (.v (.bool neg)) H)
    | _ => none
noncomputable def a_un (op : UnOp) (x : AO) (tm : TM) (id : Nat) (H : Heap) : Option Out :=  match x.evF tm with
    | .v a => out H ((aun op a).map .v)
    | _ => none
noncomputable def a_conv (k : IntKind) (x : AO) (tm : TM) (id : Nat) (H : Heap) : Option Out :=  match x.evF tm with
    | .v (.int _ n) => some (.val (.v (.int k (wrapF k n))) H)
    | _ => none
noncomputable def a_convS (x : AO) (tm : TM) (id : Nat) (H : Heap) : Option Out :=  match x.evF tm with
    | .v (.string s) => some (.val (.v (.string s)) H)
    | _ => none
noncomputable def a_b2s (x : AO) (tm : TM) (id : Nat) (H : Heap) : Option Out :=  match x.evF tm with
    | .v (.slice none _ _) => some (.val (.v (.string ⟨#[]⟩)) H)
    | .v _ => none
    | a => match lenA a with
      | none => none
      | some n => match elemsF H 1 n a with
        | none => none
        | some cs => out H ((bytesOf cs).map fun bs => .v (.string ⟨bs.toArray⟩))
noncomputable def a_s2b (x : AO) (tm : TM) (id : Nat) (H : Heap) : Option Out :=  match x.evF tm with
    | .v (.string s) => some (.val (.fsl s.size (cellsOfBytes s.data.toList)) H)
    | _ => none
noncomputable def a_mkfn (g : Nat) (caps : List AO) (tm : TM) (id : Nat) (H : Heap) : Option Out :=  some (.val (.fn g (caps.map (·.evF tm))) H)
noncomputable def a_mkslice (ty : Nat) (esz : Nat) (bytes : Nat) (zero : List AV) (len : AO) (cap : AO) (tm : TM) (id : Nat) (H : Heap) : Option Out :=  match intA (len.evF tm), intA (cap.evF tm) with
    | some l, some c =>
      if 0 ≤ l ∧ l ≤ c ∧ (bytes : Int) * c ≤ 140737488355328 ∧ c ≤ 140737488355328 then some (.val (.osl id 0 l.toNat esz c.toNat) ((id, ⟨ty, repA zero c.toNat⟩) :: H)) else none
    | _, _ => none
noncomputable def a_slice (esz : Nat) (x : AO) (lo : Option AO) (hi : Option AO) (mx : Option AO) (tm : TM) (id : Nat) (H : Heap) : Option Out :=  out H (sliceA esz (x.evF tm) (lo.map (·.evF tm)) (hi.map (·.evF tm)) (mx.map (·.evF tm)))
noncomputable def a_sliceS (x : AO) (lo : Option AO) (hi : Option AO) (tm : TM) (id : Nat) (H : Heap) : Option Out :=  out H (sliceSA (x.evF tm) (lo.map (·.evF tm)) (hi.map (·.evF tm)))
noncomputable def a_faddr (off : Nat) (x : AO) (tm : TM) (id : Nat) (H : Heap) : Option Out :=  out H (faddrA off (x.evF tm))
noncomputable def a_field (agg : Bool) (off : Nat) (sz : Nat) (x : AO) (tm : TM) (id : Nat) (H : Heap) : Option Out :=  match x.evF tm with
    | .agg cs => bif agg then (bif Nat.ble (off + sz) cs.length then some (.val (.agg ((cs.drop off).take sz)) H) else none) else out H cs[off]?
    | _ => none
noncomputable def a_iaddr (esz : Nat) (x : AO) (i : AO) (tm : TM) (id : Nat) (H : Heap) : Option Out :=  match intA (i.evF tm) with
    | none => none
    | some n => out H (iaddrF esz n (x.evF tm))
noncomputable def a_aaddr (esz : Nat) (len : Nat) (x : AO) (i : AO) (tm : TM) (id : Nat) (H : Heap) : Option Out :=  match intA (i.evF tm) with
    | none => none
    | some n => if 0 ≤ n ∧ n < len then out H (aaddrA esz n (x.evF tm)) else none
noncomputable def a_index (x : AO) (i : AO) (tm : TM) (id : Nat) (H : Heap) : Option Out :=  match x.evF tm, intA (i.evF tm) with
    | .v (.string s), some n => if 0 ≤ n then out H ((s.data.toList[n.toNat]?).map fun b => .v (.int .u8 b.toNat)) else none
    | _, _ => none
noncomputable def a_aindex (agg : Bool) (esz : Nat) (len : Nat) (x : AO) (i : AO) (tm : TM) (id : Nat) (H : Heap) : Option Out :=  match x.evF tm, intA (i.evF tm) with
    | .agg cs, some n => if 0 ≤ n ∧ n < len then
        (bif agg then (bif Nat.ble (n.toNat * esz + esz) cs.length then some (.val (.agg ((cs.drop (n.toNat * esz)).take esz)) H) else none) else out H cs[n.toNat * esz]?) else none
    | _, _ => none
noncomputable def a_ext (x : AO) (i : Nat) (tm : TM) (id : Nat) (H : Heap) : Option Out :=  match x.evF tm with
    | .tup vs => out H vs[i]?
    | _ => none
noncomputable def a_call (g : Nat) (args : List AO) (tm : TM) (id : Nat) (H : Heap) : Option Out :=  some (.call g (args.map (·.evF tm)))
noncomputable def a_callv (f : AO) (args : List AO) (tm : TM) (id : Nat) (H : Heap) : Option Out :=  match f.evF tm with
    | .fn g caps => some (.call g (args.map (·.evF tm) ++ caps))
    | _ => none
noncomputable def a_len (x : AO) (tm : TM) (id : Nat) (H : Heap) : Option Out :=  match x.evF tm with
    | .v (.string _) => none
    | a => out H ((lenA a).map fun n => .v (.int .i64 n))
noncomputable def a_lenS (x : AO) (tm : TM) (id : Nat) (H : Heap) : Option Out :=  match x.evF tm with
    | .v (.string s) => some (.val (.v (.int .i64 s.size)) H)
    | _ => none
noncomputable def a_append (ty : Nat) (esz : Nat) (bytes : Nat) (s : AO) (x : AO) (tm : TM) (id : Nat) (H : Heap) : Option Out :=  (appendF id ty esz bytes H (s.evF tm) (x.evF tm)).map fun p => .val p.1 p.2
noncomputable def a_copy (esz : Nat) (d : AO) (s : AO) (tm : TM) (id : Nat) (H : Heap) : Option Out :=  match dlenA (d.evF tm), lenA (s.evF tm) with
    | some dl, some sl =>
      let n := Nat.min sl dl
      match elemsF H esz n (s.evF tm) with
      | none => none
      | some cs => bif Nat.beq n 0 then some (.val (.v (.int .i64 0)) H) else
        match d.evF tm with
        | .osl c off _ e _ => match hgetF H c with
          | none => none
          | some ch => bif Nat.beq e esz && Nat.ble (off + n * esz) ch.cells.length && oneAll cs then some (.val (.v (.int .i64 n)) (hset H c { ch with cells := splice ch.cells off cs })) else none
        | _ => none
    | _, _ => none
noncomputable def a_clear (esz : Nat) (zero : List AV) (s : AO) (tm : TM) (id : Nat) (H : Heap) : Option Out :=  match s.evF tm with
    | .v (.slice none _ _) => some (.val aundef H)
    | .osl c off len e _ => bif Nat.beq len 0 then some (.val aundef H) else match hgetF H c with
      | none => none
      | some ch => bif Nat.beq e esz && Nat.beq zero.length esz && Nat.ble (off + len * esz) ch.cells.length && oneAll zero then some (.val aundef (hset H c { ch with cells := splice ch.cells off (repA zero len) })) else none
    | _ => none
noncomputable def a_max (xs : List AO) (tm : TM) (id : Nat) (H : Heap) : Option Out :=  out H (maxA true (xs.map (·.evF tm)))
noncomputable def a_min (xs : List AO) (tm : TM) (id : Nat) (H : Heap) : Option Out :=  out H (maxA false (xs.map (·.evF tm)))
noncomputable def a_bad  (tm : TM) (id : Nat) (H : Heap) : Option Out :=  none
noncomputable def aopF (op : AOp) : TM → Nat → Heap → Option Out :=
  match op with
  | .move x => a_move x
  | .pick c a b => a_pick c a b
  | .alloc ty zero => a_alloc ty zero
  | .box ty sz x => a_box ty sz x
  | .build zero parts => a_build zero parts
  | .buildSlice ty esz len zero parts => a_buildSlice ty esz len zero parts
  | .load agg sz x => a_load agg sz x
  | .store sz a x => a_store sz a x
  | .nilChk x => a_nilChk x
  | .bin op x y => a_bin op x y
  | .beq neg x y => a_beq neg x y
  | .eqAgg neg ks x y => a_eqAgg neg ks x y
  | .eqNilS neg x => a_eqNilS neg x
  | .eqNilP neg x => a_eqNilP neg x
  | .un op x => a_un op x
  | .conv k x => a_conv k x
  | .convS x => a_convS x
  | .b2s x => a_b2s x
  | .s2b x => a_s2b x
  | .mkfn g caps => a_mkfn g caps
  | .mkslice ty esz bytes zero len cap => a_mkslice ty esz bytes zero len cap
  | .slice esz x lo hi mx => a_slice esz x lo hi mx
  | .sliceS x lo hi => a_sliceS x lo hi
  | .faddr off x => a_faddr off x
  | .field agg off sz x => a_field agg off sz x
  | .iaddr esz x i => a_iaddr esz x i
  | .aaddr esz len x i => a_aaddr esz len x i
  | .index x i => a_index x i
  | .aindex agg esz len x i => a_aindex agg esz len x i
  | .ext x i => a_ext x i
  | .call g args => a_call g args
  | .callv f args => a_callv f args
  | .len x => a_len x
  | .lenS x => a_lenS x
  | .append ty esz bytes s x => a_append ty esz bytes s x
  | .copy esz d s => a_copy esz d s
  | .clear esz zero s => a_clear esz zero s
  | .max xs => a_max xs
  | .min xs => a_min xs
  | .bad  => a_bad 
theorem aopF_eq (op : AOp) (tm : TM) (id : Nat) (H : Heap) : aopF op tm id H = aop op tm id H := by
  cases op <;> simp only [aopF, aop, a_move, a_pick, a_alloc, a_box, a_build, a_buildSlice, a_load, a_store, a_nilChk, a_bin, a_beq, a_eqAgg, a_eqNilS, a_eqNilP, a_un, a_conv, a_convS, a_b2s, a_s2b, a_mkfn, a_mkslice, a_slice, a_sliceS, a_faddr, a_field, a_iaddr, a_aaddr, a_index, a_aindex, a_ext, a_call, a_callv, a_len, a_lenS, a_append, a_copy, a_clear, a_max, a_min, a_bad, evF_eq, abinF_eq, wrapF_eq, loadF_eq, storeF_eq, elemsF_eq, appendF_eq, iaddrF_eq, hgetF_eq] <;> rfl
end Go.Am

/- The interpreter again, fast for Lean's kernel; it tells what it told. -/
namespace Go.Am
set_option autoImplicit false
set_option linter.unusedVariables false

noncomputable def tsetF (t : TM) : Nat → AV → TM :=
  TM.rec (motive := fun _ => Nat → AV → TM) (fun _ _ => .nil) (fun a n y => Nat.rec (motive := fun _ => TM) (.one y) (fun _ _ => .one a) n) (fun l r il ir n y => Nat.rec (motive := fun _ => TM) (.two (il (Nat.div n 2) y) r) (fun _ _ => .two l (ir (Nat.div n 2) y)) (Nat.mod n 2)) t
theorem tsetF_eq (t : TM) : tsetF t = tset t := by
  induction t with
  | nil => rfl
  | one a => funext n y; cases n <;> rfl
  | two l r il ir =>
    funext n y
    show Nat.rec (motive := fun _ => TM) (TM.two (tsetF l (Nat.div n 2) y) r) (fun _ _ => TM.two l (tsetF r (Nat.div n 2) y)) (Nat.mod n 2) = bif Nat.beq (n % 2) 0 then TM.two (tset l (n / 2) y) r else TM.two l (tset r (n / 2) y)
    rw [il, ir]
    show Nat.rec (motive := fun _ => TM) (TM.two (tset l (n / 2) y) r) (fun _ _ => TM.two l (tset r (n / 2) y)) (n % 2) = _
    cases n % 2 <;> rfl
noncomputable def goesF (tm : TM) (o : AOper) : Bool :=
  match o.guard with
  | none => true
  | some (t, want) => match tgetF tm t with
    | .v (.bool b) => b == want
    | _ => false
theorem goesF_eq (tm : TM) (o : AOper) : goesF tm o = goes tm o := by
  unfold goesF goes; rw [tgetF_eq]; rfl
noncomputable def putF (s : St) (o : AOper) (a : AV) : St := match o.dst with
  | none => s
  | some d => { s with tm := tsetF s.tm d a }
theorem putF_eq (s : St) (o : AOper) (a : AV) : putF s o a = s.put o a := by
  unfold putF St.put; rw [tsetF_eq]; rfl
noncomputable def opAF (T : Table) (ex : Exec) (id : Nat) (o : AOper) (s : St) : Option St :=
  bif goesF s.tm o then
    match aopF o.op s.tm id s.H with
    | none => none
    | some (.val a H) => some (putF { s with H := H } o a)
    | some (.call g args) => match callFF T ex id g args s.H s.nx with
      | none => none
      | some (a, H, nx) => some (putF { s with H := H, nx := nx } o a)
  else some (putF s o aundef)
theorem opAF_eq (T : Table) (ex : Exec) (id : Nat) (o : AOper) (s : St) : opAF T ex id o s = opA T ex id o s := by
  unfold opAF opA; simp only [goesF_eq, aopF_eq, putF_eq, callFF_eq]; rfl
noncomputable def regOpsF (T : Table) (ex : Exec) (os : List AOper) : Nat → St → Option St :=
  List.rec (motive := fun _ => Nat → St → Option St) (fun _ s => some s) (fun o _ rest id s => match opAF T ex id o s with
    | none => none
    | some s' => rest (Nat.succ id) s') os
theorem regOpsF_eq (T : Table) (ex : Exec) (base : Nat) : ∀ (os : List AOper) (i : Nat) (s : St), regOpsF T ex os (base + i) s = regOps T ex base os i s
  | [], i, s => rfl
  | o :: os, i, s => by
    show (match opAF T ex (base + i) o s with
      | none => none
      | some s' => regOpsF T ex os (Nat.succ (base + i)) s') = _
    simp only [regOps, opAF_eq]
    split
    · rename_i h; simp only [h]
    · rename_i s' h; simp only [h]; exact regOpsF_eq T ex base os (i + 1) s'
noncomputable def dopAF (T : Table) (ex : Exec) (id : Nat) (o : AOper) (s : St) : Option DR :=
  bif goesF s.tm o then
    let t := touchA s.tm s.H o.op
    let Hc := hin t s.H
    match aopF o.op s.tm id Hc with
    | none => none
    | some (.val a H2) => some (bif o.op.makes T then ⟨a, t, t, H2, s.nx⟩ else ⟨a, t, [], [], s.nx⟩)
    | some (.call g args) => match callFF T ex id g args Hc s.nx with
      | none => none
      | some (a, H2, nx) => some (bif o.op.makes T then ⟨a, t, t, H2, bif o.op.numbers T then nx else s.nx⟩ else ⟨a, t, [], [], s.nx⟩)
  else some ⟨aundef, [], [], [], s.nx⟩
theorem dopAF_eq (T : Table) (ex : Exec) (id : Nat) (o : AOper) (s : St) : dopAF T ex id o s = dopA T ex id o s := by
  unfold dopAF dopA; simp only [goesF_eq, aopF_eq, callFF_eq]; rfl
noncomputable def dputF (s : St) (dst : Option Nat) (d : DR) : St :=
  { tm := match dst with
      | none => s.tm
      | some k => tsetF s.tm k d.r
    H := d.H2 ++ hout d.wr s.H
    nx := d.nx }
theorem dputF_eq (s : St) (dst : Option Nat) (d : DR) : dputF s dst d = dput s dst d := by
  unfold dputF dput; rw [tsetF_eq]; rfl
noncomputable def dregOpsF (T : Table) (ex : Exec) (os : List AOper) : Nat → St → Option (List DR × St) :=
  List.rec (motive := fun _ => Nat → St → Option (List DR × St)) (fun _ s => some ([], s)) (fun o _ rest id s => match dopAF T ex id o s with
    | none => none
    | some d => match rest (Nat.succ id) (dputF s o.dst d) with
      | none => none
      | some (ds, s') => some (d :: ds, s')) os
theorem dregOpsF_eq (T : Table) (ex : Exec) (base : Nat) : ∀ (os : List AOper) (i : Nat) (s : St), dregOpsF T ex os (base + i) s = dregOps T ex base os i s
  | [], i, s => rfl
  | o :: os, i, s => by
    show (match dopAF T ex (base + i) o s with
      | none => none
      | some d => match dregOpsF T ex os (Nat.succ (base + i)) (dputF s o.dst d) with
        | none => none
        | some (ds, s') => some (d :: ds, s')) = _
    simp only [dregOps, dopAF_eq, dputF_eq]
    have : ∀ s', dregOpsF T ex os (Nat.succ (base + i)) s' = dregOps T ex base os (i + 1) s' := fun s' => dregOpsF_eq T ex base os (i + 1) s'
    simp only [this]
    rfl

noncomputable def stReg (T : Table) (ex : Exec) (ops : List AOper) (s : St) : Option (AEx × St) :=
  match regOpsF T ex ops s.nx { s with nx := s.nx + ops.length } with
  | none => none
  | some s' => some (.normal, s')
noncomputable def stDreg (T : Table) (ex : Exec) (ops : List AOper) (s : St) : Option (AEx × St) :=
  match dregOpsF T ex ops s.nx { s with nx := s.nx + ops.length } with
  | none => none
  | some (ds, s') => bif chkD ds ops ds then some (.normal, s') else none
def stSeq (ex : Exec) (a b : ACode) (s : St) : Option (AEx × St) := match ex a s with
  | some (.normal, s') => ex b s'
  | r => r
noncomputable def stCond (ex : Exec) (c : AO) (a b : ACode) (s : St) : Option (AEx × St) := match c.evF s.tm with
  | .v (.bool true) => ex a s
  | .v (.bool false) => ex b s
  | _ => none
def stBlock (ex : Exec) (id : Nat) (c : ACode) (s : St) : Option (AEx × St) := match ex c s with
  | some (.exit id', s') => bif Nat.beq id' id then some (.normal, s') else some (.exit id', s')
  | r => r
def stLoop (ex : Exec) (c : ACode) (s : St) : Option (AEx × St) := match ex c s with
  | some (.normal, s') => ex (.loop c) s'
  | r => r
def stScope (ex : Exec) (c cur : ACode) (s : St) : Option (AEx × St) := match ex cur s with
  | some (.goto l, s') => match findL c l with
    | none => some (.goto l, s')
    | some r => ex (.scope c r) s'
  | r => r
noncomputable def stepF (T : Table) (ex : Exec) (c : ACode) : St → Option (AEx × St) :=
  match c with
  | .skip => fun s => some (.normal, s)
  | .region ops => stReg T ex ops
  | .dregion ops => stDreg T ex ops
  | .seq a b => stSeq ex a b
  | .cond c a b => stCond ex c a b
  | .block id c => stBlock ex id c
  | .loop c => stLoop ex c
  | .exit id => fun s => some (.exit id, s)
  | .scope c cur => stScope ex c cur
  | .label _ => fun s => some (.normal, s)
  | .goto l => fun s => some (.goto l, s)
  | .ret => fun s => some (.ret, s)
theorem stepF_eq (T : Table) (ex : Exec) (c : ACode) (s : St) : stepF T ex c s = step T ex c s := by
  cases c with
  | region ops =>
    simp only [stepF, step, stReg]
    have := regOpsF_eq T ex s.nx ops 0
    simp only [Nat.add_zero] at this
    rw [this]
    cases regOps T ex s.nx ops 0 { s with nx := s.nx + ops.length } <;> rfl
  | dregion ops =>
    simp only [stepF, step, stDreg]
    have := dregOpsF_eq T ex s.nx ops 0
    simp only [Nat.add_zero] at this
    rw [this]
    rfl
  | cond c a b => simp only [stepF, step, stCond, evF_eq]; rfl
  | _ => rfl
noncomputable def execF (T : Table) (n : Nat) : Exec := Nat.rec (motive := fun _ => Exec) (fun _ _ => none) (fun _ ex => stepF T ex) n
theorem execF_eq (T : Table) : ∀ n, execF T n = exec T n
  | 0 => rfl
  | n + 1 => by
    show stepF T (execF T n) = step T (exec T n)
    rw [execF_eq T n]
    funext c s
    exact stepF_eq T _ c s
noncomputable def runAF (T : Table) (n : Nat) (g : Nat) (args : List AV) : Option AV :=
  match T g with
  | some (.code f _) => match runF (execF T n) f args [] 0 with
    | none => none
    | some (r, H, _) => frz false H depthA r
  | _ => none
theorem runAF_eq (T : Table) (n g : Nat) (args : List AV) : runAF T n g args = runA T n g args := by
  unfold runAF runA; rw [execF_eq]; rfl

noncomputable def ownAF (T : Table) (n : Nat) (g : Nat) (b : Bool) (args : List AV) : Option AV :=
  match T g with
  | some (.code f _) => match runF (execF T n) f args [] 0 with
    | none => none
    | some (r, H, _) => frz b H depthA r
  | _ => none
theorem ownAF_eq (T : Table) (n g : Nat) (b : Bool) (args : List AV) : ownAF T n g b args = ownA T n g b args := by
  unfold ownAF ownA; rw [execF_eq]; rfl

end Go.Am
