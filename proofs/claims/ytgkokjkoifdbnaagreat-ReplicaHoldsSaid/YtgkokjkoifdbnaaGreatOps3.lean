import Derived.Test.YtgkokjkoifdbnaaGreatOps2
/- '==' of structs whose cells are numbers, bools, strings. -/
namespace Go.Am
set_option autoImplicit false
set_option linter.unusedSimpArgs false
set_option linter.unusedVariables false

def eqVal : Nat → Value → Value → Option Bool
  | 1, .int k a, .int k' b => if k ≠ k' then none else some (a == b)
  | 0, .bool a, .bool b => some (a == b)
  | 2, .string a, .string b => some (a.data.toList == b.data.toList)
  | _, _, _ => none
def eqVals : List Nat → List Value → List Value → Option Bool
  | [], [], [] => some true
  | k :: ks, x :: xs, y :: ys =>
    match eqVal k x y with
    | none => none
    | some b => match eqVals ks xs ys with
      | none => none
      | some r => some (b && r)
  | _, _, _ => none

theorem eqCell_val {Γ : Ctx} {k : Nat} {x y : AV} {xv yv : Value} {b : Bool} (hx : RL Γ x xv) (hy : RL Γ y yv) (h : eqCell k x y = some b) : eqVal k xv yv = some b := by
  cases x with
  | v u =>
    have := hx.v_inv; subst this
    cases y with
    | v u' =>
      have := hy.v_inv; subst this
      rcases k with _ | _ | _ | k <;> cases xv <;> cases yv <;> first | exact h | (simp [eqCell] at h)
    | _ => rcases k with _ | _ | _ | k <;> cases xv <;> simp [eqCell] at h
  | _ => rcases k with _ | _ | _ | k <;> simp [eqCell] at h
theorem eqCells_vals {Γ : Ctx} {ks : List Nat} {xs ys : List AV} {xv yv : List Value} {b : Bool} (hx : All2 (RL Γ) xs xv) (hy : All2 (RL Γ) ys yv) (h : eqCells ks xs ys = some b) :
    eqVals ks xv yv = some b ∧ xs.length = ks.length ∧ ys.length = ks.length := by
  induction ks generalizing xs ys xv yv b with
  | nil =>
    cases xs with
    | cons => simp [eqCells] at h
    | nil =>
      cases ys with
      | nil =>
        have h1 := hx.1; have h2 := hy.1
        simp at h1 h2
        rw [List.eq_nil_of_length_eq_zero h1.symm, List.eq_nil_of_length_eq_zero h2.symm]
        simpa [eqCells, eqVals] using h
      | cons y ys => simp [eqCells] at h
  | cons k ks ih =>
    cases xs with
    | nil => simp [eqCells] at h
    | cons x xs =>
    cases ys with
    | nil => simp [eqCells] at h
    | cons y ys =>
      obtain ⟨u, us, rfl, hu, hus⟩ := hx.uncons
      obtain ⟨t, ts, rfl, ht, hts⟩ := hy.uncons
      simp only [eqCells] at h
      cases hc : eqCell k x y with
      | none => simp [hc] at h
      | some c =>
        simp only [hc] at h
        cases hr : eqCells ks xs ys with
        | none => simp [hr] at h
        | some r =>
          simp only [hr, Option.some.injEq] at h
          obtain ⟨i1, i2, i3⟩ := ih hus hts hr
          simp [eqVals, eqCell_val hu ht hc, i1, i2, i3, h]

theorem eqVals_append {ks js : List Nat} {a b c d : List Value} {r : Bool} (ha : a.length = ks.length) (hc : c.length = ks.length) (h : eqVals (ks ++ js) (a ++ b) (c ++ d) = some r) :
    ∃ p q, eqVals ks a c = some p ∧ eqVals js b d = some q ∧ r = (p && q) := by
  induction ks generalizing a c r with
  | nil =>
    have e1 := List.eq_nil_of_length_eq_zero ha
    have e2 := List.eq_nil_of_length_eq_zero hc
    subst e1; subst e2
    exact ⟨true, r, rfl, by simpa using h, by simp⟩
  | cons k ks ih =>
    cases a with
    | nil => simp at ha
    | cons x xs =>
    cases c with
    | nil => simp at hc
    | cons y ys =>
      simp only [List.cons_append, eqVals] at h
      cases hc' : eqVal k x y with
      | none => simp [hc'] at h
      | some e =>
        simp only [hc'] at h
        cases hr : eqVals (ks ++ js) (xs ++ b) (ys ++ d) with
        | none => simp [hr] at h
        | some s =>
          simp only [hr, Option.some.injEq] at h
          obtain ⟨p, q, h1, h2, rfl⟩ := ih (by simpa using ha) (by simpa using hc) hr
          exact ⟨e && p, q, by simp [eqVals, hc', h1], h2, by rw [← h, Bool.and_assoc]⟩

def plainFs (f : TypeId → Option (List Nat)) : Nat → List Field → Option (List Nat)
  | _, [] => some []
  | o, x :: xs => if x.offset = o ∧ x.name ≠ "_" then (match f x.type with
    | none => none
    | some k => match plainFs f (o + k.length) xs with
      | none => none
      | some l => some (k ++ l)) else none
def plainN (P : Program) : Nat → TypeId → Option (List Nat)
  | 0, _ => none
  | n + 1, t =>
    match P.underlying t with
    | some .bool => some [0]
    | some (.int _) => some [1]
    | some .string => some [2]
    | some (.struct fs) => if P.stoodInHeld t = false then (match plainFs (plainN P n) 0 fs.toList with
      | none => none
      | some k => if (P.info? t).map (·.size) = some k.length then some k else none) else none
    | _ => none

/-- The cells from o to k. -/
def seg (xs : Array Value) (o k : Nat) : List Value := (xs.toList.drop o).take (k - o)
theorem seg_one (xs : Array Value) (o : Nat) (h : o < xs.size) : seg xs o (o + 1) = [xs[o]] := by
  have h' : o < xs.toList.length := by simpa using h
  simp only [seg, Nat.add_sub_cancel_left]
  rw [List.drop_eq_getElem_cons h']
  simp
theorem seg_split (xs : Array Value) {o m k : Nat} (h1 : o ≤ m) (h2 : m ≤ k) (h3 : k ≤ xs.size) : seg xs o k = seg xs o m ++ seg xs m k ∧ (seg xs o m).length = m - o := by
  constructor
  · unfold seg
    rw [show k - o = (m - o) + (k - m) by omega, List.take_add, List.drop_drop, show o + (m - o) = m by omega]
  · simp [seg]; omega
theorem seg_extract (xs : Array Value) (off n o m : Nat) (h : m ≤ n) (h2 : off + n ≤ xs.size) : seg (xs.extract off (off + n)) o m = seg xs (off + o) (off + m) := by
  unfold seg
  simp only [Array.toList_extract, List.extract, List.drop_take, List.drop_drop, List.take_take]
  congr 1
  omega

def EqAt (P : Program) (d : Nat) (t : TypeId) (ks : List Nat) : Prop :=
  ∀ (xs ys : Array Value) (off : Nat) (r : Bool), off + ks.length ≤ xs.size → off + ks.length ≤ ys.size → eqVals ks (seg xs off (off + ks.length)) (seg ys off (off + ks.length)) = some r →
    ∀ w, (do let a ← part t xs off; let b ← part t ys off; Op.equalIn (d + 1) t a b : Sem Bool).run P w = .ok r w

theorem eq_fields {P : Program} {d : Nat} {f : TypeId → Option (List Nat)} (hf : ∀ t k, f t = some k → EqAt P d t k) (xs ys : Array Value) :
    ∀ (fs : List Field) (o : Nat) (ks : List Nat) (r : Bool), plainFs f o fs = some ks → o + ks.length ≤ xs.size → o + ks.length ≤ ys.size →
      eqVals ks (seg xs o (o + ks.length)) (seg ys o (o + ks.length)) = some r → ∀ w, (Op.eqFields d.succ xs ys fs).run P w = .ok r w
  | [], o, k, r, h, _, _, he, w => by
    simp only [plainFs, Option.some.injEq] at h
    subst h
    simp [seg, eqVals] at he
    simp [Op.eqFields, he]
  | x :: fs, o, k, r, h, hx, hy, he, w => by
    simp only [plainFs] at h
    split at h
    · rename_i hc
      cases hk : f x.type with
      | none => simp [hk] at h
      | some n =>
        simp only [hk] at h
        cases hl : plainFs f (o + n.length) fs with
        | none => simp [hl] at h
        | some l =>
        simp only [hl, Option.some.injEq] at h
        subst h
        simp only [List.length_append] at hx hy he
        obtain ⟨s1, l1⟩ := seg_split xs (o := o) (m := o + n.length) (k := o + (n.length + l.length)) (by omega) (by omega) hx
        obtain ⟨s2, l2⟩ := seg_split ys (o := o) (m := o + n.length) (k := o + (n.length + l.length)) (by omega) (by omega) hy
        rw [s1, s2] at he
        obtain ⟨p, q, h1, h2, rfl⟩ := eqVals_append (by rw [l1]; omega) (by rw [l2]; omega) he
        have hp := hf x.type n hk xs ys o p (by omega) (by omega) h1 w
        have hq := eq_fields hf xs ys fs (o + n.length) l q hl (by omega) (by omega) (by rw [Nat.add_assoc]; exact h2) w
        simp only [Op.eqFields, hc.2, ne_eq, not_false_eq_true, if_true, hc.1]
        simp only [Sem.run_bind] at hp ⊢
        cases h3 : (part x.type xs o).run P w with
        | halt hh ww => simp [h3] at hp
        | ok a w1 =>
          simp only [h3, Result.andThen_ok] at hp ⊢
          cases h4 : (part x.type ys o).run P w1 with
          | halt hh ww => simp [h4] at hp
          | ok b w2 =>
            simp only [h4, Result.andThen_ok] at hp ⊢
            rw [hp]
            simp only [Result.andThen_ok]
            cases p with
            | true => simpa using hq
            | false => simp
    · simp at h

theorem fieldsOf_eq {P : Program} {t : TypeId} {fs : Array Field} (h : P.underlying t = some (.struct fs)) : P.fieldsOf t = fs := by simp [Program.fieldsOf, h]

theorem eq_plain {P : Program} : ∀ (n : Nat) (t : TypeId) (k : List Nat), plainN P n t = some k → ∀ d, n ≤ d → EqAt P d t k := by
  intro n
  induction n with
  | zero => intro t k h; simp [plainN] at h
  | succ n ih =>
    intro t k h d hd xs ys off r hx hy he w
    simp only [plainN] at h
    have scalar : ∀ kk, k = [kk] → aggD (match P.underlying t with | some d => d | none => .bool) = false → (P.underlying t).isSome → (∀ a b, eqVal kk a b = some r → ∀ w, (Op.equalIn (d + 1) t a b).run P w = .ok r w) →
        (do let a ← part t xs off; let b ← part t ys off; Op.equalIn (d + 1) t a b : Sem Bool).run P w = .ok r w := by
      intro kk hk ha hs hv
      subst hk
      obtain ⟨dd, hdd⟩ := Option.isSome_iff_exists.1 hs
      simp only [hdd] at ha
      simp only [List.length_singleton] at hx hy he
      have e1 : seg xs off (off + 1) = [xs[off]] := seg_one xs off (by omega)
      have e2 : seg ys off (off + 1) = [ys[off]] := seg_one ys off (by omega)
      rw [e1, e2] at he
      simp only [eqVals] at he
      cases hc : eqVal kk xs[off] ys[off] with
      | none => simp [hc] at he
      | some c =>
        simp only [hc, Bool.and_true, Option.some.injEq] at he
        subst he
        simp [part, run_isAgg hdd, ha, show off < xs.size by omega, show off < ys.size by omega, hv _ _ hc]
    split at h
    · rename_i hu
      simp only [Option.some.injEq] at h
      refine scalar 0 h.symm (by simp [hu, aggD]) (by simp [hu]) fun a b hab w => ?_
      cases a <;> cases b <;> simp [eqVal] at hab
      simp [Op.equalIn, run_underlying hu, hab]
    · rename_i kk hu
      simp only [Option.some.injEq] at h
      refine scalar 1 h.symm (by simp [hu, aggD]) (by simp [hu]) fun a b hab w => ?_
      cases a <;> cases b <;> simp [eqVal] at hab
      obtain ⟨rfl, hab⟩ := hab
      simp [Op.equalIn, run_underlying hu, hab]
    · rename_i hu
      simp only [Option.some.injEq] at h
      refine scalar 2 h.symm (by simp [hu, aggD]) (by simp [hu]) fun a b hab w => ?_
      cases a <;> cases b <;> simp only [eqVal, Option.some.injEq] at hab <;> first | (simp at hab; done) | skip
      subst hab; simp [Op.equalIn, run_underlying hu, beq_toListBytes, ByteArray.toList_eq]
    · rename_i fs hu
      split at h
      · rename_i hst
        cases hk : plainFs (plainN P n) 0 fs.toList with
        | none => simp [hk] at h
        | some m =>
          simp only [hk] at h
          split at h
          · rename_i hsz
            simp only [Option.some.injEq] at h
            subst h
            obtain ⟨i, hi, him⟩ := Option.map_eq_some_iff.1 hsz
            obtain ⟨d, rfl⟩ : ∃ e, d = e + 1 := ⟨d - 1, by omega⟩
            have hfs := fieldsOf_eq hu
            have hef := eq_fields (P := P) (d := d) (f := plainN P n) (fun t k h => ih t k h d (by omega)) (xs.extract off (off + m.length)) (ys.extract off (off + m.length)) fs.toList 0 m r hk (by simp; omega) (by simp; omega)
              (by rw [Nat.zero_add, seg_extract xs off m.length 0 m.length (by omega) hx, seg_extract ys off m.length 0 m.length (by omega) hy]; exact he) w
            have := run_equalIn_struct (P := P) w (d + 1) t (xs.extract off (off + m.length)) (ys.extract off (off + m.length)) (by rw [hfs]; exact hu) hst
            rw [hfs, hef] at this
            simp [part, run_isAgg hu, aggD, run_sizeOf hi, him, this]
          · simp at h
      · simp at h
    · simp at h

theorem plain_size {P : Program} {n : Nat} {t : TypeId} {fs : Array Field} {ks : List Nat} (hu : P.underlying t = some (.struct fs)) (hp : plainN P (n + 1) t = some ks) : ∃ i, P.info? t = some i ∧ i.size = ks.length := by
  simp only [plainN, hu] at hp
  split at hp
  · split at hp
    · simp at hp
    · split at hp
      · rename_i hs
        simp only [Option.some.injEq] at hp
        subst hp
        obtain ⟨i, hi, h2⟩ := Option.map_eq_some_iff.1 hs
        exact ⟨i, hi, h2⟩
      · simp at hp
  · simp at hp

/-- '==' and '!=' of two plain structs. -/
theorem eqAgg_ok {P : Program} {Γ : Ctx} {t : TypeId} {fs : Array Field} {ks : List Nat} (hu : P.underlying t = some (.struct fs)) (hp : plainN P 100 t = some ks) (hm : P.eqGuardType P.depth t = false)
    {a b : List AV} {xs ys : Array Value} (ha : All2 (RL Γ) a xs.toList) (hb : All2 (RL Γ) b ys.toList) {r : Bool} (h : eqCells ks a b = some r)
    (x y : Operand) (w : World) :
    (do eqGuard .eql t x y (.agg xs) (.agg ys); binOp .eql t (.agg xs) (.agg ys) : Sem Value).run P w = .ok (.bool r) w ∧
    (do eqGuard .neq t x y (.agg xs) (.agg ys); binOp .neq t (.agg xs) (.agg ys) : Sem Value).run P w = .ok (.bool (!r)) w := by
  obtain ⟨hv, hla, hlb⟩ := eqCells_vals ha hb h
  have sx : xs.size = ks.length := by have := ha.1; simp at this; omega
  have sy : ys.size = ks.length := by have := hb.1; simp at this; omega
  have he := eq_plain (P := P) 100 t ks hp 9999 (by omega) xs ys 0 r (by omega) (by omega) (by
    simp only [seg, List.drop_zero, Nat.zero_add, Nat.sub_zero]
    rw [List.take_of_length_le (by simp [sx]), List.take_of_length_le (by simp [sy])]; exact hv) w
  have hi := plain_size (n := 99) hu hp
  obtain ⟨i, hi, his⟩ := hi
  have e1 : xs.extract 0 ks.length = xs := by rw [← sx]; simp
  have e2 : ys.extract 0 ks.length = ys := by rw [← sy]; simp
  have he' : (Op.equalIn 10000 t (.agg xs) (.agg ys)).run P w = .ok r w := by
    simpa [part, run_isAgg hu, aggD, run_sizeOf hi, his, e1, e2] using he
  constructor
  · rw [Sem.run_bind, run_eqGuard_agg (P := P) w .eql t x y xs ys hm, Result.andThen_ok, run_eql_struct, he']; rfl
  · rw [Sem.run_bind, run_eqGuard_agg (P := P) w .neq t x y xs ys hm, Result.andThen_ok, run_neq_struct, he']; rfl

end Go.Am
