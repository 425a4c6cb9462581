import Derived.Test.YtgkokjkoifdbnaaGreatOps4
import Derived.Laws.Tables
/- Structs and slices that are built; places in slices; bytes. -/
namespace Go.Am
set_option autoImplicit false
set_option linter.unusedSimpArgs false
set_option linter.unusedVariables false

theorem foldl_set (off : Nat) : ∀ (vs : List Value) (k : Nat) (cells : Array Value), off + k + vs.length ≤ cells.size →
    ((vs.zipIdx k).foldl (fun cs (p : Value × Nat) => cs.setIfInBounds (off + p.2) p.1) cells).toList = cells.toList.take (off + k) ++ vs ++ cells.toList.drop (off + k + vs.length)
  | [], k, cells, h => by simp
  | v :: rest, k, cells, h => by
    simp only [List.zipIdx_cons, List.foldl_cons]
    rw [foldl_set off rest (k + 1) _ (by simp at h ⊢; omega)]
    have e := list_seg_step cells.toList (off + k) v rest (by simp at h ⊢; omega)
    simpa [Array.toList_setIfInBounds, Nat.add_assoc] using e

theorem All2.fill {Γ : Ctx} {place : Nat → Option (Nat × Nat)} : ∀ (parts : List (Nat × Nat × List AV)) (vparts : List (Nat × Value)) (cs r : List AV) (vs : Array Value), All2 (RL Γ) cs vs.toList → fillA cs parts = some r →
    parts.length = vparts.length → (∀ (j : Nat) (p : Nat × Nat × List AV) (q : Nat × Value), parts[j]? = some p → vparts[j]? = some q → place q.1 = some (p.1, p.2.1) ∧ All2 (RL Γ) p.2.2 q.2.cells.toList) →
    ∃ cells, Instr.fill place vs vparts = some cells ∧ All2 (RL Γ) r cells.toList
  | [], [], cs, r, vs, h, hf, _, _ => by
    simp [fillA] at hf; subst hf
    exact ⟨vs, rfl, h⟩
  | p :: ps, [], _, _, _, _, _, hl, _ => by simp at hl
  | [], q :: qs, _, _, _, _, _, hl, _ => by simp at hl
  | (off, sz, xs) :: ps, (i, v) :: qs, cs, r, vs, h, hf, hl, hp => by
    simp only [fillA] at hf
    cases hc : (Nat.beq xs.length sz && Nat.ble (off + sz) cs.length) with
    | false => simp [hc] at hf
    | true =>
      simp only [hc, cond_true] at hf
      simp only [Bool.and_eq_true] at hc
      have h1 : xs.length = sz := Nat.eq_of_beq_eq_true hc.1
      have h2 : off + sz ≤ cs.length := Nat.le_of_ble_eq_true hc.2
      obtain ⟨hpl, hx⟩ := hp 0 _ _ rfl rfl
      have hsz : v.cells.size = sz := by have := hx.1; simp at this; omega
      have hvs : vs.size = cs.length := by have := h.1; simp at this; omega
      have hcond : ¬ (v.cells.size ≠ sz ∨ off + v.cells.size > vs.size) := by omega
      simp only [Instr.fill, hpl]
      rw [if_neg (by simp; omega)]
      refine All2.fill ps qs (Am.splice cs off xs) r _ ?_ hf (by simpa using hl) (fun j p q h1 h2 => hp (j + 1) p q (by simpa using h1) (by simpa using h2))
      have e := foldl_set off v.cells.toList 0 vs (by simp; omega)
      simp only [Nat.add_zero] at e
      have : (v.cells.zipIdx.foldl (fun cs (x : Value × Nat) => match x with | (c, j) => cs.setIfInBounds (off + j) c) vs).toList = vs.toList.take off ++ v.cells.toList ++ vs.toList.drop (off + v.cells.toList.length) := by
        rw [← e, ← Array.foldl_toList, Array.toList_zipIdx]
      rw [this]
      exact h.splice hx off

theorem repA_ok (Γ : Ctx) (z : Array Value) (n : Nat) : All2 (RL Γ) (repA (z.toList.map .v) n) (((Array.range (n * z.size)).map (z[· % z.size]!)).toList) := by
  have key : ∀ n, ((Array.range (n * z.size)).map (z[· % z.size]!)).toList = (List.replicate n z.toList).flatten := by
    intro n
    induction n with
    | zero => simp
    | succ n ih =>
      rw [List.replicate_succ', List.flatten_append, ← ih]
      apply List.ext_getElem
      · simp [Nat.add_mul]
      · intro j h1 h2
        simp only [Array.length_toList, Array.size_map, Array.size_range] at h1
        simp only [Array.toList_map, Array.toList_range, List.getElem_map, List.getElem_range]
        by_cases hj : j < n * z.size
        · rw [List.getElem_append_left (by simpa using hj)]; simp
        · rw [List.getElem_append_right (by simpa using hj)]
          have h3 : j < (n + 1) * z.size := h1
          have hz : j - n * z.size < z.size := by rw [Nat.add_mul] at h3; omega
          have : j % z.size = j - n * z.size := by
            have e : j = z.size * n + (j - n * z.size) := by rw [Nat.mul_comm]; omega
            conv => lhs; rw [e]
            rw [Nat.mul_add_mod, Nat.mod_eq_of_lt hz]
          simp [this, hz]
  rw [key]
  induction n with
  | zero => exact .nil _
  | succ n ih =>
    simp only [repA, List.replicate_succ, List.flatten_cons]
    refine All2.append ⟨by simp, fun j a x ha hx => ?_⟩ ih
    simp only [List.getElem?_map, Option.map_eq_some_iff] at ha
    obtain ⟨y, hy, rfl⟩ := ha
    rw [hx] at hy; injection hy with hy; subst hy
    exact .v Γ _
theorem zeroCells_eq (z : Array Value) (n : Nat) : Builtin.zeroCells z n = (Array.range (n * z.size)).map (z[· % z.size]!) := rfl

/-- A slice of a new row. -/
theorem RL.newSlice {Γ : Ctx} {id n esz b : Nat} (hU : Γ.U id) (hb : Γ.blk id = b) (hs : Γ.siz id = n * esz) (k : Nat) (hk : k ≤ n) : RL Γ (.osl id 0 k esz n) (.slice (some ⟨b, 0, none⟩) k n) :=
  .osl id 0 k esz n b 0 n hU (.inr rfl) hk (Nat.le_refl _) ⟨hb.symm, by omega⟩

/-! ### Places -/
theorem intA_ok {Γ : Ctx} {a : AV} {v : Value} {n : Int} (h : intA a = some n) (hr : RL Γ a v) : ∃ k, v = .int k n := by
  cases a with
  | v x =>
    have := hr.v_inv; subst this
    cases v <;> simp [intA] at h
    subst h; exact ⟨_, rfl⟩
  | _ => simp [intA] at h
theorem boolA_ok {Γ : Ctx} {a : AV} {v : Value} {b : Bool} (h : boolA a = some b) (hr : RL Γ a v) : v = .bool b := by
  cases a with
  | v x =>
    have := hr.v_inv; subst this
    cases v <;> simp [boolA] at h
    subst h; rfl
  | _ => simp [boolA] at h

theorem fieldPlace_ok {P : Program} {f : Field} {i : TypeInfo} (hi : P.info? f.type = some i) (hs : i.size ≠ 0) (a : Addr) (w : World) : (fieldPlace a f).run P w = .ok (a.add f.offset) w := by
  simp [fieldPlace, run_sizeOf hi, hs]

theorem RT.drop {F : Nat → Prop} {w : World} {cells : List AV} {b off : Nat} {f : Nat → Value} (hF : F b) (hc : ∀ (j : Nat) (a : AV), cells[j]? = some a → w.cell? ⟨b, off + j, none⟩ = some (f j))
    (hr : ∀ (j : Nat) (a : AV), cells[j]? = some a → RT F w a (f j)) (n : Nat) : RT F w (.eptr (cells.drop n)) (.pointer (some ⟨b, off + n, none⟩)) :=
  .eptr b (off + n) (cells.drop n) (fun j => f (n + j)) hF (fun j a ha => by rw [List.getElem?_drop] at ha; rw [Nat.add_assoc]; exact hc _ a ha) (fun j a ha => by rw [List.getElem?_drop] at ha; exact hr _ a ha)

theorem iaddr_slice {P : Program} {Γ : Ctx} {t e : TypeId} {i : TypeInfo} (hu : P.underlying t = some (.slice e)) (hi : P.info? e = some i) {x r : AV} {xv : Value} {k : IntKind} {n : Int} (hx : RL Γ x xv)
    (h : iaddrA i.size n x = some r) (w : World) : ∃ v, (Instr.indexAt t xv (.int k n)).run P w = .ok v w ∧ RL Γ r v := by
  cases x with
  | osl c off len e' lb =>
    obtain ⟨b, off', cap, rfl, hU, ho, hl, hlb, hb⟩ := hx.osl_inv'
    simp only [iaddrA] at h
    split at h
    · rename_i hc
      simp only [Option.some.injEq] at h; subst h
      have : off' = off := by rcases ho with h | h <;> omega
      subst this
      refine ⟨.pointer (some ⟨b, off' + n.toNat * i.size, none⟩), ?_, .ptr _ _ b hU hb.1⟩
      simp [Instr.indexAt, asIntOf, run_underlying hu, hc.1, hc.2.1, run_sizeOf hi, add_none]
    · simp at h
  | fsl len cells =>
    simp only [iaddrA] at h
    split at h
    · rename_i hc
      simp only [Option.some.injEq] at h; subst h
      rcases hx.fsl_inv.fsl_inv with ⟨rfl, _⟩ | ⟨b, off, cap, f, rfl, hF, hl, hcc, hrr⟩
      · omega
      · refine ⟨.pointer (some ⟨b, off + n.toNat * i.size, none⟩), ?_, .tree (RT.drop hF hcc hrr _)⟩
        simp [Instr.indexAt, asIntOf, run_underlying hu, hc.1, hc.2, run_sizeOf hi, add_none]
    · simp at h
  | _ => simp [iaddrA] at h

theorem iaddr_array {P : Program} {Γ : Ctx} {t e : TypeId} {len : Nat} {i : TypeInfo} (hu : P.underlying t = some (.array len e)) (hi : P.info? e = some i) {x r : AV} {xv : Value} {k : IntKind} {n : Int} (hx : RL Γ x xv)
    (h0 : 0 ≤ n) (h1 : n < len)
    (h : aaddrA i.size n x = some r) (w : World) : ∃ v, (Instr.indexAt t xv (.int k n)).run P w = .ok v w ∧ RL Γ r v := by
  cases x with
  | ptr c off =>
    obtain ⟨b, rfl, hU, hb⟩ := hx.ptr_inv'
    simp only [aaddrA, Option.some.injEq] at h; subst h
    refine ⟨.pointer (some ⟨b, off + n.toNat * i.size, none⟩), ?_, .ptr _ _ b hU hb⟩
    simp [Instr.indexAt, asIntOf, run_underlying hu, h0, h1, run_sizeOf hi, add_none, Instr.sureAddr]
  | eptr cells =>
    obtain ⟨b, off, f, rfl, hF, hcc, hrr⟩ := hx.eptr_inv.eptr_inv
    simp only [aaddrA, Option.some.injEq] at h; subst h
    refine ⟨.pointer (some ⟨b, off + n.toNat * i.size, none⟩), ?_, .tree (RT.drop hF hcc hrr _)⟩
    simp [Instr.indexAt, asIntOf, run_underlying hu, h0, h1, run_sizeOf hi, add_none, Instr.sureAddr]
  | _ => simp [aaddrA] at h

theorem faddr_ok {P : Program} {Γ : Ctx} {s : TypeId} {fs : Array Field} {f : Nat} {fd : Field} {i : TypeInfo} (hu : P.underlying s = some (.struct fs)) (hf : fs[f]? = some fd) (hi : P.info? fd.type = some i) (hs : i.size ≠ 0)
    {x r : AV} {xv : Value} (hx : RL Γ x xv)
    (h : faddrA fd.offset x = some r) (w : World) : ∃ v, (Instr.fieldAt s xv f).run P w = .ok v w ∧ RL Γ r v := by
  cases x with
  | ptr c off =>
    obtain ⟨b, rfl, hU, hb⟩ := hx.ptr_inv'
    simp only [faddrA, Option.some.injEq] at h; subst h
    refine ⟨.pointer (some ⟨b, off + fd.offset, none⟩), ?_, .ptr _ _ b hU hb⟩
    simp [Instr.fieldAt, run_underlying hu, hf, Instr.sureAddr, fieldPlace_ok hi hs, add_none]
  | eptr cells =>
    obtain ⟨b, off, g, rfl, hF, hcc, hrr⟩ := hx.eptr_inv.eptr_inv
    simp only [faddrA, Option.some.injEq] at h; subst h
    refine ⟨.pointer (some ⟨b, off + fd.offset, none⟩), ?_, .tree (RT.drop hF hcc hrr _)⟩
    simp [Instr.fieldAt, run_underlying hu, hf, Instr.sureAddr, fieldPlace_ok hi hs, add_none]
  | _ => simp [faddrA] at h

/-- A part of a struct's cells. -/
theorem part_ok {P : Program} {Γ : Ctx} {t : TypeId} {d : TypeDesc} {i : TypeInfo} (hu : P.underlying t = some d) (hi : P.info? t = some i) {cs : List AV} {vs : Array Value} (h : All2 (RL Γ) cs vs.toList) {off : Nat} {r : AV}
    (hr : (bif aggD d then (bif Nat.ble (off + i.size) cs.length then some (AV.agg ((cs.drop off).take i.size)) else none) else cs[off]?) = some r) (w : World) :
    ∃ v, (part t vs off).run P w = .ok v w ∧ RL Γ r v := by
  cases hd : aggD d with
  | true =>
    simp only [hd, cond_true] at hr
    cases hb : Nat.ble (off + i.size) cs.length with
    | false => simp [hb] at hr
    | true =>
      simp only [hb, cond_true, Option.some.injEq] at hr
      subst hr
      refine ⟨.agg (vs.extract off (off + i.size)), by simp [part, run_isAgg hu, hd, run_sizeOf hi], ?_⟩
      have := (h.drop off).take i.size
      have e : (vs.toList.drop off).take i.size = (vs.extract off (off + i.size)).toList := by simp [List.extract, List.drop_take]
      rw [e] at this
      have h3 := this.arr
      rwa [Array.toArray_toList] at h3
  | false =>
    simp only [hd, cond_false] at hr
    obtain ⟨v, hv, hrl⟩ := h.get hr
    have hv' : vs[off]? = some v := by simpa using hv
    exact ⟨v, by simp [part, run_isAgg hu, hd, hv'], hrl⟩

/-! ### Slicing -/
theorem bound_ok {P : Program} {Γ : Ctx} {a : AV} {v : Value} {n : Int} (h : intA a = some n) (hr : RL Γ a v) (h0 : ¬ n < 0) {y : Nat} (hy : n.toNat ≤ y) (code : BoundsCode) (w : World) : (Instr.sliceBound v y code).run P w = .ok n.toNat w := by
  obtain ⟨k, rfl⟩ := intA_ok h hr
  have : 0 ≤ n ∧ n ≤ (y : Int) := by omega
  simp [Instr.sliceBound, asIntOf, this]

/-- Two optional values. -/
def RO (Γ : Ctx) (o : Option AV) (v : Option Value) : Prop := match o, v with
  | none, none => True
  | some a, some v => RL Γ a v
  | _, _ => False

theorem bounds_ok {P : Program} {Γ : Ctx} {lo hi mx : Option AV} {lv hv mv : Option Value} (hl : RO Γ lo lv) (hh : RO Γ hi hv) (hm : RO Γ mx mv) {len cap l h m m' : Nat} (isSlice : Bool)
    (e1 : optI lo 0 = some l) (e2 : optI hi len = some h) (e3 : optI mx m' = some m) (h1 : l ≤ h) (h2 : h ≤ m) (h3 : m ≤ cap) (hmx : mx.isSome → hi.isSome) (hm' : m' ≤ cap) (w : World) :
    (Instr.sliceBounds isSlice len cap lv hv mv).run P w = .ok (l, h, if mx.isSome then m else cap) w := by
  have key : ∀ (o : Option AV) (v : Option Value) (d n y : Nat) (code : BoundsCode), RO Γ o v → optI o d = some n → n ≤ y → (v = none ∧ o = none ∧ n = d) ∨ ∃ u, v = some u ∧ o.isSome ∧ ∀ w, (Instr.sliceBound u y code).run P w = .ok n w := by
    intro o v d n y code hr ho hy
    cases o with
    | none => cases v with
      | none => simp [optI] at ho; exact .inl ⟨rfl, rfl, ho.symm⟩
      | some v => exact absurd hr (by simp [RO])
    | some a => cases v with
      | none => exact absurd hr (by simp [RO])
      | some v =>
        simp only [optI] at ho
        split at ho
        · simp at ho
        · rename_i n' hn'
          split at ho
          · simp at ho
          · rename_i hn0
            simp only [Option.some.injEq] at ho; subst ho
            exact .inr ⟨v, rfl, rfl, fun w => bound_ok hn' hr hn0 hy code w⟩
  unfold Instr.sliceBounds
  rcases key mx mv m' m cap (if isSlice then .slice3Acap else .slice3Alen) hm e3 h3 with ⟨rfl, rfl, rfl⟩ | ⟨u, rfl, hms, hmr⟩
  · rcases key hi hv len h cap (if isSlice then .sliceAcap else .sliceAlen) hh e2 (by omega) with ⟨rfl, rfl, rfl⟩ | ⟨u2, rfl, _, hhr⟩
    · rcases key lo lv 0 l h .sliceB hl e1 h1 with ⟨rfl, _, rfl⟩ | ⟨u3, rfl, _, hlr⟩
      · simp
      · simp [hlr]
    · rcases key lo lv 0 l h .sliceB hl e1 h1 with ⟨rfl, _, rfl⟩ | ⟨u3, rfl, _, hlr⟩
      · simp [hhr]
      · simp [hhr, hlr]
  · rcases key hi hv len h m .slice3B hh e2 h2 with ⟨rfl, rfl, rfl⟩ | ⟨u2, rfl, _, hhr⟩
    · simp [hms] at hmx
    · rcases key lo lv 0 l h .slice3C hl e1 h1 with ⟨rfl, _, rfl⟩ | ⟨u3, rfl, _, hlr⟩
      · simp [hmr, hhr, hms]
      · simp [hmr, hhr, hlr, hms]

end Go.Am
