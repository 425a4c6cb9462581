import Derived.Test.YtgkokjkoifdbnaaGreatOps6
import Derived.Test.YtgkokjkoifdbnaaGreatComp
/- One operation: what the interpreter tells, the machine does. -/
namespace Go.Am
set_option autoImplicit false
set_option linter.unusedSimpArgs false
set_option linter.unusedVariables false

theorem ofVal_ok (Γ : Ctx) (v : Value) : RL Γ (ofVal v) v := by
  have key : ∀ (cs : Array Value), cs.toList.length = cs.size → ∀ (j : Nat) (a : AV) (x : Value), (cs.toList.map AV.v)[j]? = some a → cs[j]? = some x → RL Γ a x := by
    intro cs _ j a x ha hx
    simp only [List.getElem?_map, Option.map_eq_some_iff] at ha
    obtain ⟨y, hy, rfl⟩ := ha
    have : cs[j]? = some y := by simpa using hy
    rw [hx] at this; injection this with this; subst this
    exact .v Γ _
  cases v with
  | agg cs => exact .agg _ cs (by simp) (key cs (by simp))
  | tuple cs => exact .tup _ cs (by simp) (key cs (by simp))
  | _ => exact .v Γ _

theorem par_eq {n k : Nat} (h1 : n % 2 = k % 2) (h2 : n / 2 = k / 2) : n = k := by omega
theorem tget_tset (tm : TM) (k n : Nat) (a : AV) : tget (tset tm k a) n = if n = k ∧ thas tm k = true then a else tget tm n := by
  induction tm generalizing k n with
  | nil => simp [tset, tget, thas]
  | one x =>
    by_cases hk : k = 0
    · subst hk
      simp only [tset, thas, Nat.beq_refl, cond_true, and_true]
      by_cases hn : n = 0
      · subst hn; simp [tget]
      · simp [tget, hn, nbeq_false hn]
    · simp [tset, thas, nbeq_false hk, tget]
  | two l r il ir =>
    by_cases hk : k % 2 = 0
    · have ek : Nat.beq (k % 2) 0 = true := by rw [hk]; rfl
      simp only [tset, thas, ek, cond_true]
      by_cases hn : n % 2 = 0
      · have en : Nat.beq (n % 2) 0 = true := by rw [hn]; rfl
        simp only [tget, en, cond_true, il]
        have : (n / 2 = k / 2) ↔ n = k := ⟨fun h => par_eq (by omega) h, fun h => by rw [h]⟩
        simp [this]
      · have en : Nat.beq (n % 2) 0 = false := nbeq_false hn
        simp only [tget, en, cond_false]
        have : n ≠ k := by rintro rfl; exact hn hk
        simp [this]
    · have ek : Nat.beq (k % 2) 0 = false := nbeq_false hk
      simp only [tset, thas, ek, cond_false]
      by_cases hn : n % 2 = 0
      · have en : Nat.beq (n % 2) 0 = true := by rw [hn]; rfl
        simp only [tget, en, cond_true]
        have : n ≠ k := by rintro rfl; exact hk hn
        simp [this]
      · have en : Nat.beq (n % 2) 0 = false := nbeq_false hn
        simp only [tget, en, cond_false, ir]
        have : (n / 2 = k / 2) ↔ n = k := ⟨fun h => par_eq (by omega) h, fun h => by rw [h]⟩
        simp [this]
theorem thas_tset (tm : TM) (k : Nat) (a : AV) : thas (tset tm k a) = thas tm := by
  induction tm generalizing k with
  | nil => rfl
  | one x => cases h : Nat.beq k 0 <;> simp only [tset, h, cond_true, cond_false] <;> rfl
  | two l r il ir =>
    funext n
    cases h : Nat.beq (k % 2) 0 <;> simp only [tset, h, cond_true, cond_false, thas, il, ir]
theorem tget_blank : ∀ (d n i : Nat), tget (blankT d n) i = aundef
  | 0, n, i => by
    simp only [blankT]
    cases Nat.beq n 0 <;> simp only [cond_true, cond_false, tget]
    cases Nat.beq i 0 <;> rfl
  | d + 1, n, i => by
    simp only [blankT]
    cases Nat.beq n 0 <;> simp only [cond_true, cond_false, tget]
    cases Nat.beq n 1 <;> simp only [cond_true, cond_false, tget, tget_blank d]
    · cases Nat.beq (i % 2) 0 <;> rfl
    · cases Nat.beq i 0 <;> rfl
theorem thas_blank : ∀ (d n i : Nat), n ≤ 2 ^ d → thas (blankT d n) i = decide (i < n)
  | 0, n, i, h => by
    simp only [blankT]
    by_cases hn : n = 0
    · subst hn; simp [thas]
    · have : n = 1 := by simp at h; omega
      subst this
      simp only [nbeq_false hn, cond_false, thas]
      by_cases hi : i = 0
      · subst hi; rfl
      · rw [nbeq_false hi]; simp; omega
  | d + 1, n, i, h => by
    simp only [blankT]
    by_cases hn : n = 0
    · subst hn; simp [thas]
    · simp only [nbeq_false hn, cond_false]
      by_cases hn1 : n = 1
      · subst hn1
        simp only [Nat.beq_refl, cond_true, thas]
        by_cases hi : i = 0
        · subst hi; rfl
        · rw [nbeq_false hi]; simp; omega
      · simp only [nbeq_false hn1, cond_false, thas]
        rw [Nat.pow_succ] at h
        rw [thas_blank d _ _ (by omega), thas_blank d _ _ (by omega)]
        by_cases hi : i % 2 = 0
        · have : Nat.beq (i % 2) 0 = true := by rw [hi]; rfl
          rw [this, cond_true]
          congr 1; apply propext; omega
        · rw [nbeq_false hi, cond_false]
          congr 1; apply propext; omega

/-- The temporaries. -/
structure TR (Γ : Ctx) (tm : TM) (a : Act) : Prop where
  get : ∀ i, RL Γ (tget tm i) (a.tmps.getD i undef)
  has : ∀ i, thas tm i = decide (i < a.tmps.size)

theorem TR.imp {Γ Γ' : Ctx} {tm : TM} {a : Act} (h : TR Γ tm a) (k : ∀ a x, RL Γ a x → RL Γ' a x) : TR Γ' tm a := ⟨fun i => k _ _ (h.get i), h.has⟩
theorem TR.congr {Γ : Ctx} {tm tm' : TM} {a : Act} (h : TR Γ tm a) (hg : ∀ i, tget tm i = tget tm' i) (hh : thas tm = thas tm') : TR Γ tm' a :=
  ⟨fun i => by rw [← hg]; exact h.get i, fun i => by rw [← hh]; exact h.has i⟩
theorem TR.set {Γ : Ctx} {tm : TM} {a : Act} (h : TR Γ tm a) {k : Nat} {r : AV} {v : Value} (hr : RL Γ r v) (df : List Deferred) : TR Γ (tset tm k r) { tmps := a.tmps.setIfInBounds k v, defers := df } := by
  refine ⟨fun i => ?_, fun i => ?_⟩
  · rw [tget_tset]
    have hk := h.has k
    by_cases hik : i = k
    · subst hik
      by_cases hlt : i < a.tmps.size
      · simp only [hk, hlt, decide_true, and_self, if_true]
        simpa [hlt] using hr
      · simp only [hk, hlt, decide_false, and_false, if_false, Bool.false_eq_true]
        have := h.get i
        simpa [hlt] using this
    · simp only [hik, false_and, if_false]
      have := h.get i
      simpa [Array.getElem?_setIfInBounds_ne (Ne.symm hik)] using this
  · rw [thas_tset, h.has i]; simp
theorem thas_putT : ∀ (as : List AV) (tm : TM) (k : Nat), thas (putT tm k as) = thas tm
  | [], tm, k => rfl
  | a :: r, tm, k => by simp only [putT]; rw [thas_putT r, thas_tset]
theorem tget_putT : ∀ (as : List AV) (tm : TM) (k i : Nat), tget (putT tm k as) i = if k ≤ i ∧ thas tm i = true then (as[i - k]?).getD (tget tm i) else tget tm i
  | [], tm, k, i => by simp [putT]
  | a :: r, tm, k, i => by
    simp only [putT]
    rw [tget_putT r, thas_tset, tget_tset]
    by_cases hi : thas tm i = true
    · by_cases hik : i = k
      · subst hik
        simp [hi]; omega
      · by_cases hlt : k ≤ i
        · have : i - k = (i - (k + 1)) + 1 := by omega
          simp [hi, hik, hlt, show k + 1 ≤ i by omega, this]
        · simp [hik, hlt, show ¬ k + 1 ≤ i by omega]
    · simp only [hi, and_false, if_false, Bool.false_eq_true]
      by_cases hik : i = k
      · subst hik; simp [hi]
      · simp [hik]
theorem init_ok {Γ : Ctx} {args : List AV} {vs : Array Value} (hargs : All2 (RL Γ) args vs.toList) {n : Nat} (hle : args.length ≤ n) (hn : n ≤ 4096) (df : List Deferred) : TR Γ (padA args n) { tmps := vs ++ Array.replicate (n - vs.size) undef, defers := df } := by
  have hl : args.length = vs.size := by simpa using hargs.1
  have hth : ∀ i, thas (blankT 12 n) i = decide (i < n) := fun i => thas_blank 12 n i (by omega)
  refine ⟨fun i => ?_, fun i => ?_⟩
  · simp only [padA, tget_putT, hth, tget_blank, Nat.zero_le, true_and, Nat.sub_zero]
    by_cases hi : i < args.length
    · have h1 : args[i]? = some args[i] := by simp [hi]
      have h2 : i < vs.size := by omega
      have := hargs.2 i args[i] vs[i] h1 (by simp [h2])
      simp only [show i < n by omega, decide_true, if_true, h1, Option.getD_some]
      have e : (vs ++ Array.replicate (n - vs.size) undef).getD i undef = vs[i] := by
        simp [Array.getElem?_append, h2]
      rw [e]; exact this
    · have h1 : args[i]? = none := by simp; omega
      have e : (vs ++ Array.replicate (n - vs.size) undef).getD i undef = undef := by
        simp only [Array.getD_eq_getD_getElem?, Array.getElem?_append, show ¬ i < vs.size by omega, if_false, Array.getElem?_replicate]
        split <;> rfl
      rw [e, h1]
      simp only [Option.getD_none, ite_self]
      exact .v Γ _
  · simp only [padA, thas_putT, hth, Array.size_append, Array.size_replicate]
    congr 1; apply propext; omega

theorem compO_ok {Γ : Ctx} {tm : TM} {a : Act} (h : TR Γ tm a) {x : Operand} {ax : AO} (hc : compO x = some ax) : RL Γ (ax.ev tm) (a.eval x) := by
  cases x with
  | tmp t => simp [compO] at hc; subst hc; exact h.get t
  | const v => simp [compO] at hc; subst hc; exact ofVal_ok Γ v
  | global g => simp [compO] at hc
  | func g => simp [compO] at hc; subst hc; exact .fn g [] #[] rfl (fun j a x ha => by simp at ha)
theorem compOO_ok {Γ : Ctx} {tm : TM} {a : Act} (h : TR Γ tm a) {x : Option Operand} {ax : Option AO} (hc : compOO x = some ax) : RO Γ (ax.map (·.ev tm)) (x.map a.eval) := by
  cases x with
  | none => simp [compOO] at hc; subst hc; trivial
  | some x =>
    simp only [compOO, Option.map_eq_some_iff] at hc
    obtain ⟨y, hy, rfl⟩ := hc
    exact compO_ok h hy
theorem mapO_all2 {Γ : Ctx} {tm : TM} {a : Act} (h : TR Γ tm a) : ∀ {xs : List Operand} {as : List AO}, mapO compO xs = some as → All2 (RL Γ) (as.map (·.ev tm)) (xs.map a.eval)
  | [], as, hc => by simp [mapO] at hc; subst hc; exact .nil _
  | x :: xs, as, hc => by
    simp only [mapO] at hc
    cases hx : compO x with
    | none => simp [hx] at hc
    | some y =>
      cases hr : mapO compO xs with
      | none => simp [hx, hr] at hc
      | some ys =>
        simp only [hx, hr, Option.some.injEq] at hc
        subst hc
        exact .cons (compO_ok h hx) (mapO_all2 h hr)
theorem compOs_ok {Γ : Ctx} {tm : TM} {a : Act} (h : TR Γ tm a) {xs : Array Operand} {as : List AO} (hc : compOs xs = some as) : All2 (RL Γ) (as.map (·.ev tm)) (xs.map a.eval).toList := by
  have := mapO_all2 h hc
  simpa using this

theorem zeroL_ok {P : Program} {t : TypeId} {zs : List AV} (h : zeroL P t = some zs) : ∃ i z, P.info? t = some i ∧ i.zero = some z ∧ z.cells.size = i.size ∧ zs = z.cells.toList.map .v := by
  unfold zeroL at h
  cases hi : P.info? t with
  | none => simp [hi] at h
  | some i =>
    cases hz : i.zero with
    | none => simp [hi, hz] at h
    | some z =>
      simp only [hi, hz] at h
      split at h
      · rename_i hs
        simp only [Option.some.injEq] at h
        exact ⟨i, z, rfl, hz, hs, h.symm⟩
      · simp at h

/-- What an operation that is no call of a function comes to. -/
def Does (P : Program) (Γ : Ctx) (id : Nat) (s : Sem Next) (r : AV) (H' : Heap) : Prop :=
  ∃ nx Γ', s.run P Γ.w = .ok nx Γ'.w ∧ Γ'.H = H' ∧ Ev Γ Γ' ∧ HRel Γ' ∧ (∀ c, Γ'.U c → Γ.U c ∨ c = id) ∧ ((∃ v, nx = .value v ∧ RL Γ' r v) ∨ (nx = .skip ∧ RL Γ' r undef))

theorem Does.of_val {P : Program} {Γ : Ctx} {id : Nat} {s : Sem Value} {r : AV} {H' : Heap} (h : Val P Γ id s H' r) : Does P Γ id (do pure (.value (← s))) r H' := by
  obtain ⟨v, Γ', h1, h2, h3, h4, h5, h6⟩ := h
  exact ⟨.value v, Γ', by simp [h1], h2, h3, h4, h6, .inl ⟨v, rfl, h5⟩⟩
theorem Does.same {P : Program} {Γ : Ctx} (hR : HRel Γ) {id : Nat} {s : Sem Value} {r : AV} (h : ∃ v, s.run P Γ.w = .ok v Γ.w ∧ RL Γ r v) : Does P Γ id (do pure (.value (← s))) r Γ.H := by
  obtain ⟨v, h1, h2⟩ := h
  exact .of_val (.same hR h1 h2)
theorem Does.pure {P : Program} {Γ : Ctx} (hR : HRel Γ) {id : Nat} {v : Value} {r : AV} (h : RL Γ r v) : Does P Γ id (Pure.pure (.value v)) r Γ.H :=
  ⟨.value v, Γ, rfl, rfl, Ev.refl Γ, hR, fun _ h => .inl h, .inl ⟨v, rfl, h⟩⟩

theorem out_some {H H' : Heap} {o : Option AV} {r : AV} (h : out H o = some (.val r H')) : o = some r ∧ H' = H := by
  cases o with
  | none => simp [out] at h
  | some a => simp only [out, Option.map_some, Option.some.injEq, Out.val.injEq] at h; exact ⟨by rw [h.1], h.2.symm⟩
theorem out_call {H : Heap} {o : Option AV} {g : Nat} {as : List AV} : out H o ≠ some (.call g as) := by
  cases o <;> simp [out]

theorem parts_ok {Γ : Ctx} {tm : TM} {a : Act} (h : TR Γ tm a) {place : Nat → Option (Nat × Nat)} : ∀ {ps : List (Nat × Operand)} {as : List (Nat × Nat × AO)}, compParts place ps = some as →
    (as.map fun p => (p.1, p.2.1, (p.2.2.ev tm).cells)).length = (ps.map fun p => (p.1, a.eval p.2)).length ∧
    ∀ (j : Nat) (p : Nat × Nat × List AV) (q : Nat × Value), (as.map fun p => (p.1, p.2.1, (p.2.2.ev tm).cells))[j]? = some p → (ps.map fun p => (p.1, a.eval p.2))[j]? = some q →
      place q.1 = some (p.1, p.2.1) ∧ All2 (RL Γ) p.2.2 q.2.cells.toList
  | [], as, hc => by simp [compParts] at hc; subst hc; exact ⟨rfl, fun j p q hp => by simp at hp⟩
  | (i, x) :: ps, as, hc => by
    simp only [compParts] at hc
    split at hc
    · rename_i off sz ax l h1 h2 h3
      simp only [Option.some.injEq] at hc
      subst hc
      obtain ⟨k1, k2⟩ := parts_ok h h3
      refine ⟨by simpa using k1, fun j p q hp hq => ?_⟩
      cases j with
      | zero =>
        simp at hp hq
        subst hp; subst hq
        exact ⟨h1, (compO_ok h h2).cells⟩
      | succ j => exact k2 j p q (by simpa using hp) (by simpa using hq)
    · simp at hc

end Go.Am
