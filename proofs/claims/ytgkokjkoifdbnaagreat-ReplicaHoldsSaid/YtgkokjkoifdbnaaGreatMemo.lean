import Derived.Test.YtgkokjkoifdbnaaGreatRun
/- Answers that are known. -/
namespace Go.Am
set_option autoImplicit false
set_option linter.unusedSimpArgs false
set_option linter.unusedVariables false

section
variable {T T' : Table} (h1 : ownG T = ownG T') (h2 : inG T = inG T')
include h1 h2
omit h2 in
theorem makes_congr (o : AOp) : o.makes T = o.makes T' := by
  cases o <;> simp [AOp.makes, h1]
omit h1 in
theorem numbers_congr (o : AOp) : o.numbers T = o.numbers T' := by
  cases o <;> simp [AOp.numbers, h2]
omit h2 in
theorem meets_congr (x y : AOp) : meets T x y = meets T' x y := by
  simp [meets, makes_congr h1]
omit h2 in
theorem unOf_congr (b : Nat) (o : AOper) : ∀ (ps : List AOper) (k : Nat), unOf T b o ps k = unOf T' b o ps k
  | [], k => rfl
  | p :: ps, k => by simp only [unOf, meets_congr h1, unOf_congr b o ps (k + 1)]
omit h1 in
theorem apartT_congr (o p : AOper) : apartT T o p = apartT T' o p := by
  simp [apartT, numbers_congr h2]
omit h1 in
theorem fitD_congr (b : Nat) (o : AOper) : ∀ (ps : List AOper) (k : Nat), fitD T b o ps k = fitD T' b o ps k
  | [], k => rfl
  | p :: ps, k => by simp only [fitD, apartT_congr h2, fitD_congr b o ps (k + 1)]
theorem compD_congr : ∀ (bs : List Nat) (done os : List AOper), compD T bs done os = compD T' bs done os
  | bs, done, [] => by cases bs <;> rfl
  | [], done, _ :: _ => rfl
  | b :: bs, done, o :: os => by simp only [compD, fitD_congr h2, unOf_congr h1, compD_congr bs (done ++ [o]) os]
theorem compRegion_congr (P : Program) (ops : Array Oper) (d : Bool) : compRegion P T ops d = compRegion P T' ops d := by
  unfold compRegion
  cases mapO (compOper P ops) ops.toList with
  | none => rfl
  | some as => simp only [compD_congr h1 h2]
theorem compC_congr (P : Program) : ∀ c : Code, compC P T c = compC P T' c := by
  intro c
  induction c with
  | region rid ops d => simp only [compC, compRegion_congr h1 h2]
  | _ => simp_all [compC]
end

theorem ownG_with (T : Table) (mm : Nat → Bool → List AV → Option AV) : ownG (withM T mm) = ownG T := by
  funext g
  unfold ownG withM
  cases T g with
  | none => rfl
  | some e => cases e <;> rfl
theorem inG_with (T : Table) (mm : Nat → Bool → List AV → Option AV) : inG (withM T mm) = inG T := by
  funext g
  unfold inG withM
  cases T g with
  | none => rfl
  | some e => cases e <;> rfl
theorem comp_with (P : Program) (T : Table) (mm : Nat → Bool → List AV → Option AV) : compC P (withM T mm) = compC P T := by
  funext c
  exact compC_congr (ownG_with T mm) (inG_with T mm) P c

def MemOK (P : Program) (comp : Code → Option ACode) (f : AFun) (b : Bool) (args : List AV) (r : AV) : Prop :=
  ∃ ex r0 H2 n2, WpOK P comp ex ∧ runF ex f args [] 0 = some (r0, H2, n2) ∧ frz b H2 depthA r0 = some r

theorem tabOK_with {P : Program} {T : Table} (h : TabOK P (compC P T) T) {mm : Nat → Bool → List AV → Option AV}
    (hm : ∀ g f m0, T g = some (.code f m0) → ∀ b args r, mm g b args = some r → MemOK P (compC P T) f b args r) : TabOK P (compC P (withM T mm)) (withM T mm) := by
  rw [comp_with]
  refine ⟨fun g f m hg => ?_, fun g f m hg b args r hr => ?_, fun g p hg => ?_⟩
  · unfold withM at hg
    split at hg
    · rename_i f' m' e
      simp only [Option.some.injEq, AEntry.code.injEq] at hg
      obtain ⟨rfl, _⟩ := hg
      exact h.code g f' m' e
    · rename_i e
      exact absurd hg (fun hg => e f m hg)
  · unfold withM at hg
    split at hg
    · rename_i f' m' e
      simp only [Option.some.injEq, AEntry.code.injEq] at hg
      obtain ⟨rfl, rfl⟩ := hg
      exact hm g f' m' e b args r hr
    · rename_i e
      exact absurd hg (fun hg => e f m hg)
  · unfold withM at hg
    split at hg
    · simp at hg
    · exact h.prim g p hg

/-- An answer that the interpreter told may be known. -/
theorem memOK_of {P : Program} (hm : P.follows .mixedOrders = true) {T : Table} (h : TabOK P (compC P T) T) {n g : Nat} {b : Bool} {args : List AV} {r : AV} (hr : ownA T n g b args = some r) {f : AFun} {m0 : Bool → List AV → Option AV} (hf : T g = some (.code f m0)) : MemOK P (compC P T) f b args r := by
  unfold ownA at hr
  rw [hf] at hr
  simp only at hr
  cases hx : runF (exec T n) f args [] 0 with
  | none => simp [hx] at hr
  | some x =>
    obtain ⟨r0, H2, n2⟩ := x
    simp only [hx] at hr
    exact ⟨exec T n, r0, H2, n2, (exec_ok hm h n).wp, hx, hr⟩

/-! ### Answers in a list -/
noncomputable def intSame (x : Int) (y : Int) : Bool := Int.rec (motive := fun _ => Bool) (fun a => Int.rec (motive := fun _ => Bool) (fun b => Nat.beq a b) (fun _ => false) y) (fun a => Int.rec (motive := fun _ => Bool) (fun _ => false) (fun b => Nat.beq a b) y) x
theorem intSame_eq {x y : Int} (h : intSame x y = true) : x = y := by
  cases x <;> cases y
  · exact congrArg Int.ofNat (Nat.eq_of_beq_eq_true h)
  · exact absurd h (by simp [intSame])
  · exact absurd h (by simp [intSame])
  · exact congrArg Int.negSucc (Nat.eq_of_beq_eq_true h)
def kindSame (k k' : IntKind) : Bool := if k = k' then true else false
def bytesSame : List UInt8 → List UInt8 → Bool
  | [], [] => true
  | a :: r, b :: s => bif Nat.beq a.toNat b.toNat then bytesSame r s else false
  | _, _ => false
theorem bytesSame_eq : ∀ {r s : List UInt8}, bytesSame r s = true → r = s
  | [], [], _ => rfl
  | [], _ :: _, h => by simp [bytesSame] at h
  | _ :: _, [], h => by simp [bytesSame] at h
  | a :: r, b :: s, h => by
    simp only [bytesSame] at h
    cases hb : Nat.beq a.toNat b.toNat with
    | false => simp [hb] at h
    | true =>
      simp only [hb, cond_true] at h
      rw [UInt8.toNat_inj.1 (Nat.eq_of_beq_eq_true hb), bytesSame_eq h]
noncomputable def valEq (x y : Value) : Bool := match x, y with
  | .int k a, .int k' b => bif kindSame k k' then intSame a b else false
  | .bool a, .bool b => a == b
  | .string a, .string b => bytesSame a.data.toList b.data.toList
  | .slice none n c, .slice none n' c' => Nat.beq n n' && Nat.beq c c'
  | _, _ => false
theorem valEq_eq {x y : Value} (h : valEq x y = true) : x = y := by
  unfold valEq at h
  split at h
  · rename_i k a k' b
    unfold kindSame at h
    split at h
    · rename_i hk
      simp only [cond_true] at h
      rw [hk, intSame_eq h]
    · simp at h
  · rename_i a b
    have : a = b := by simpa using h
    rw [this]
  · rename_i a b
    have := bytesSame_eq h
    obtain ⟨⟨a⟩⟩ := a
    obtain ⟨⟨b⟩⟩ := b
    simp_all
  · rename_i n c n' c'
    simp only [Bool.and_eq_true] at h
    rw [Nat.eq_of_beq_eq_true h.1, Nat.eq_of_beq_eq_true h.2]
  · simp at h
mutual
noncomputable def avEq : AV → AV → Bool
  | .v x, .v y => valEq x y
  | .eptr a, .eptr b => avsEq a b
  | .fsl n a, .fsl m b => bif Nat.beq n m then avsEq a b else false
  | .agg a, .agg b => avsEq a b
  | .tup a, .tup b => avsEq a b
  | _, _ => false
noncomputable def avsEq : List AV → List AV → Bool
  | [], [] => true
  | a :: r, b :: s => bif avEq a b then avsEq r s else false
  | _, _ => false
end
mutual
theorem avEq_eq : ∀ {a b : AV}, avEq a b = true → a = b
  | .v x, b, h => by
    cases b <;> first | (simp only [avEq] at h; rw [valEq_eq h]) | simp [avEq] at h
  | .eptr x, b, h => by
    cases b <;> first | (simp only [avEq] at h; rw [avsEq_eq h]) | simp [avEq] at h
  | .fsl n x, b, h => by
    cases b with
    | fsl m y =>
      simp only [avEq] at h
      cases hn : Nat.beq n m with
      | false => simp [hn] at h
      | true =>
        simp only [hn, cond_true] at h
        rw [avsEq_eq h, Nat.eq_of_beq_eq_true hn]
    | _ => simp [avEq] at h
  | .agg x, b, h => by
    cases b <;> first | (simp only [avEq] at h; rw [avsEq_eq h]) | simp [avEq] at h
  | .tup x, b, h => by
    cases b <;> first | (simp only [avEq] at h; rw [avsEq_eq h]) | simp [avEq] at h
  | .ptr _ _, b, h => by cases b <;> simp [avEq] at h
  | .osl _ _ _ _ _, b, h => by cases b <;> simp [avEq] at h
  | .fn _ _, b, h => by cases b <;> simp [avEq] at h
theorem avsEq_eq : ∀ {a b : List AV}, avsEq a b = true → a = b
  | [], b, h => by cases b <;> first | rfl | simp [avsEq] at h
  | a :: r, b, h => by
    cases b with
    | nil => simp [avsEq] at h
    | cons b s =>
      simp only [avsEq] at h
      cases hb : avEq a b with
      | false => simp [hb] at h
      | true =>
        simp only [hb, cond_true] at h
        rw [avEq_eq hb, avsEq_eq h]
end

/-- An answer that is known: of which function, of nothing that came in, arguments, the answer. -/
structure Known where
  g : Nat
  b : Bool
  args : List AV
  r : AV
noncomputable def lookM : List Known → Nat → Bool → List AV → Option AV
  | [], _, _, _ => none
  | k :: l, g, b, args => bif Nat.beq k.g g && (k.b == b) && avsEq args k.args then some k.r else lookM l g b args
theorem lookM_mem : ∀ {l : List Known} {g : Nat} {b : Bool} {args : List AV} {r : AV}, lookM l g b args = some r → (⟨g, b, args, r⟩ : Known) ∈ l
  | [], _, _, _, _, h => by simp [lookM] at h
  | k :: l, g, b, args, r, h => by
    simp only [lookM] at h
    cases hc : (Nat.beq k.g g && (k.b == b) && avsEq args k.args) with
    | false => simp only [hc, cond_false] at h; exact List.mem_cons_of_mem _ (lookM_mem h)
    | true =>
      simp only [hc, cond_true, Option.some.injEq] at h
      simp only [Bool.and_eq_true, beq_iff_eq] at hc
      obtain ⟨⟨h1, h2⟩, h3⟩ := hc
      obtain ⟨g', b', a', r'⟩ := k
      simp only at h h1 h2 h3
      rw [← Nat.eq_of_beq_eq_true h1, ← h2, avsEq_eq h3, ← h]
      exact List.mem_cons_self
/-- Each of them is so. -/
def AllK (T : Table) (Q : AFun → Bool → List AV → AV → Prop) : List Known → Prop
  | [] => True
  | k :: l => (∀ f m, T k.g = some (.code f m) → Q f k.b k.args k.r) ∧ AllK T Q l
theorem AllK.mem {T : Table} {Q : AFun → Bool → List AV → AV → Prop} : ∀ {l : List Known}, AllK T Q l → ∀ {k : Known}, k ∈ l → ∀ f m, T k.g = some (.code f m) → Q f k.b k.args k.r
  | [], _, k, h => by simp at h
  | k' :: l, ha, k, h => by
    rcases List.mem_cons.1 h with rfl | h
    · exact ha.1
    · exact ha.2.mem h
theorem AllK.append {T : Table} {Q : AFun → Bool → List AV → AV → Prop} : ∀ {l l' : List Known}, AllK T Q l → AllK T Q l' → AllK T Q (l ++ l')
  | [], _, _, h => h
  | _ :: _, _, h, h' => ⟨h.1, h.2.append h'⟩
theorem tabOK_look {P : Program} {T : Table} (h : TabOK P (compC P T) T) {l : List Known} (hl : AllK T (MemOK P (compC P T)) l) : TabOK P (compC P (withM T (lookM l))) (withM T (lookM l)) :=
  tabOK_with h fun g f m0 hg b args r hr => hl.mem (lookM_mem hr) f m0 hg

/-- An answer that a table with known answers told may be known, too. -/
theorem memOK_with {P : Program} (hm : P.follows .mixedOrders = true) {T : Table} {mm : Nat → Bool → List AV → Option AV} (h : TabOK P (compC P (withM T mm)) (withM T mm)) {n g : Nat} {b : Bool} {args : List AV} {r : AV} (hr : ownA (withM T mm) n g b args = some r) :
    ∀ f m, T g = some (.code f m) → MemOK P (compC P T) f b args r := by
  intro f m hf
  have := memOK_of hm h hr (f := f) (m0 := mm g) (by unfold withM; rw [hf])
  rwa [comp_with] at this

end Go.Am
