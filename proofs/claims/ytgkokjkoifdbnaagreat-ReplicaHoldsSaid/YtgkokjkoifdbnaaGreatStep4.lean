import Derived.Test.YtgkokjkoifdbnaaGreatStep3
import Derived.IntWalk
namespace Go.Am
set_option autoImplicit false
set_option linter.unusedSimpArgs false
set_option linter.unusedVariables false
set_option maxHeartbeats 1000000

theorem run_buildSlice {P : Program} {t e : TypeId} {i : TypeInfo} {z : Value} {n : Nat} (hu : P.underlying t = some (.slice e)) (hi : P.info? e = some i) (hz : i.zero = some z) (hzs : z.cells.size = i.size)
    (hsz : n * i.size ≤ 16777216) {parts : Array (Nat × Value)} {cells : Array Value}
    (hf : Instr.fill (fun k => some (k * i.size, i.size)) ((Array.range (n * z.cells.size)).map (z.cells[· % z.cells.size]!)) parts.toList = some cells) (w : World) :
    (Instr.buildSlice t n parts).run P w = .ok (.slice (some ⟨w.heap.size, 0, none⟩) n n) (w.alloc (.cells cells e (0, 0))) := by
  have hsz' : ¬ (16777216 < n * i.size) := by omega
  rw [hzs] at hf
  by_cases h0 : n * i.size = 0
  · have e0 : ∀ (g : Nat → Value), (Array.range (n * i.size)).map g = #[] := by intro g; simp [h0]
    rw [e0] at hf
    unfold Instr.buildSlice
    have er : Array.range 0 = #[] := rfl
    simp [run_underlying hu, run_sizeOf hi, h0, er, hf, newRow]
  · unfold Instr.buildSlice
    have h0' : ¬ (n = 0 ∨ i.size = 0) := by rw [← Nat.mul_eq_zero]; exact h0
    simp only [run_underlying hu, Sem.run_bind, Result.andThen_ok, run_sizeOf hi, Sem.run_ite, if_neg h0, run_zeroValue hi hz, Sem.run_pure]
    simp [hsz', newRow, hzs, hf]

theorem fillA_len : ∀ {parts : List (Nat × Nat × List AV)} {cs r : List AV}, fillA cs parts = some r → r.length = cs.length
  | [], cs, r, h => by simp [fillA] at h; subst h; rfl
  | (off, sz, xs) :: ps, cs, r, h => by
    simp only [fillA] at h
    cases hc : (Nat.beq xs.length sz && Nat.ble (off + sz) cs.length) with
    | false => simp [hc] at h
    | true =>
      simp only [hc, cond_true] at h
      simp only [Bool.and_eq_true] at hc
      have h1 : xs.length = sz := Nat.eq_of_beq_eq_true hc.1
      have h2 : off + sz ≤ cs.length := Nat.le_of_ble_eq_true hc.2
      rw [fillA_len h, splice_length (by omega)]
theorem repA_len (z : List AV) : ∀ n, (repA z n).length = n * z.length
  | 0 => by simp [repA]
  | n + 1 => by rw [repA, List.length_append, repA_len z n, Nat.add_mul]; omega

theorem run_mkslice {P : Program} {t e : TypeId} {i : TypeInfo} {z : Value} {k1 k2 : IntKind} {l c : Nat} (hu : P.underlying t = some (.slice e)) (hi : P.info? e = some i) (hz : i.zero = some z) (hzs : z.cells.size = i.size)
    (hlc : l ≤ c) (hb : i.bytes * c ≤ 140737488355328) (hm : c ≤ 140737488355328) {w w' : World} {ad : Addr}
    (hn : (newRow e ((Array.range (c * i.size)).map (z.cells[· % i.size]!))).run P w = .ok ad w') :
    (Instr.makeSlice t (.int k1 l) (.int k2 c)).run P w = .ok (.slice (some ad) l c) w' := by
  have w1 : IntKind.i64.wrap (l : Int) = l := IntWalk.i64_in _ (by omega)
  have w2 : IntKind.i64.wrap (c : Int) = c := IntWalk.i64_in _ (by omega)
  have hbi : ((i.bytes : Int) * (c : Int)) ≤ 140737488355328 := by
    have : ((i.bytes * c : Nat) : Int) ≤ ((140737488355328 : Nat) : Int) := Int.ofNat_le.2 hb
    rwa [Int.natCast_mul] at this
  have hcap : (decide ((c : Int) < 0) || decide ((i.bytes : Int) * (c : Int) > 2 ^ 48)) = false := by
    have h1 : ¬ ((c : Int) < 0) := by omega
    have h2 : ¬ ((i.bytes : Int) * (c : Int) > 2 ^ 48) := by omega
    rw [decide_eq_false h1, decide_eq_false h2]; rfl
  have t2 : ¬ ((c : Int) < (l : Int)) := by omega
  have hbr : ((decide ((c : Int) < 0) || decide ((i.bytes : Int) * (c : Int) > 2 ^ 48)) || decide ((l : Int) < 0) || decide ((l : Int) > (c : Int))) = false := by
    rw [hcap, decide_eq_false (show ¬ (l : Int) < 0 by omega), decide_eq_false (show ¬ (l : Int) > (c : Int) by omega)]; rfl
  unfold Instr.makeSlice
  by_cases h0 : c * i.size = 0
  · have e0 : ∀ (g : Nat → Value), (Array.range (c * i.size)).map g = #[] := by intro g; simp [h0]
    rw [e0] at hn
    simp only [Sem.run_bind, run_underlying hu, Result.andThen_ok, asInt, asIntOf, Sem.run_pure, run_typeInfo hi, w1, w2, hbr, Bool.false_eq_true, if_false, Sem.run_ite, run_askRoom, Int.toNat_natCast, run_sizeOf hi, h0, if_true]
    have e1 : ∀ (g : Nat → Value), (Array.range 0).map g = #[] := by intro g; simp
    rw [e1, hn]
    rfl
  · simp only [Sem.run_bind, run_underlying hu, Result.andThen_ok, asInt, asIntOf, Sem.run_pure, run_typeInfo hi, w1, w2, hbr, Bool.false_eq_true, if_false, Sem.run_ite, run_askRoom, Int.toNat_natCast, run_sizeOf hi, h0, run_zeroValue hi hz, hzs, hn]

theorem dlen_len {a : AV} {n : Nat} (h : dlenA a = some n) : lenA a = some n := by
  unfold dlenA at h
  split at h
  · simp at h
  · exact h
theorem args1 {x : AO} {xs : Array Operand} (h : compOs xs = some [x]) : ∃ y, xs = #[y] ∧ compO y = some x := by
  obtain ⟨l⟩ := xs
  simp only [compOs] at h
  match l, h with
  | [], h => simp [mapO] at h
  | [y], h =>
    simp only [mapO] at h
    cases hy : compO y with
    | none => simp [hy] at h
    | some z => simp [hy] at h; exact ⟨y, rfl, by rw [hy, h]⟩
  | y :: y2 :: r, h =>
    simp only [mapO] at h
    cases h1 : compO y <;> simp only [h1] at h <;> first | (simp at h; done) | skip
    cases h2 : compO y2 <;> simp only [h2] at h <;> first | (simp at h; done) | skip
    cases h3 : mapO compO r <;> simp [h3] at h
theorem args2 {x x2 : AO} {xs : Array Operand} (h : compOs xs = some [x, x2]) : ∃ y y2, xs = #[y, y2] ∧ compO y = some x ∧ compO y2 = some x2 := by
  obtain ⟨l⟩ := xs
  simp only [compOs] at h
  cases l with
  | nil => simp [mapO] at h
  | cons y r =>
    simp only [mapO] at h
    cases h1 : compO y with
    | none => simp [h1] at h
    | some z =>
      simp only [h1] at h
      cases h2 : mapO compO r with
      | none => simp [h2] at h
      | some l2 =>
        simp only [h2, Option.some.injEq, List.cons.injEq] at h
        obtain ⟨rfl, rfl⟩ := h
        obtain ⟨y2, e, hy2⟩ := args1 (xs := ⟨r⟩) (x := x2) (by simpa [compOs] using h2)
        exact ⟨y, y2, by simpa using congrArg Array.toList e, h1, hy2⟩
theorem ats1 {t : TypeId} {ts : Array TypeId} (h : ts.toList = [t]) : ts = #[t] := by
  obtain ⟨l⟩ := ts; simp at h; subst h; rfl
theorem ats2 {t u : TypeId} {ts : Array TypeId} (h : ts.toList = [t, u]) : ts = #[t, u] := by
  obtain ⟨l⟩ := ts; simp at h; subst h; rfl

theorem does_builtin {P : Program} {Γ : Ctx} (hR : HRel Γ) {id : Nat} (hid : ¬ Γ.U id) {tm : TM} {a : Act} (ht : TR Γ tm a) {b : Builtin} {args : Array Operand} {ats : Array TypeId} {ty : TypeId} {consts : Array Bool}
    {ao : AOp} (hc : compBuiltin P b args ats = some ao) {r : AV} {H' : Heap} (h : aop ao tm id Γ.H = some (.val r H')) : Does P Γ id (builtin b ats ty consts (args.map a.eval)) r H' := by
  unfold compBuiltin at hc
  split at hc
  · -- len
    rename_i x t hx hts
    obtain ⟨y, rfl, hy⟩ := args1 hx
    have := ats1 hts; subst this
    have rx := compO_ok ht hy
    split at hc
    · rename_i hu
      simp only [Option.some.injEq] at hc; subst hc
      simp only [aop] at h
      split at h
      · rename_i q e1
        simp only [Option.some.injEq, Out.val.injEq] at h
        obtain ⟨rfl, rfl⟩ := h
        rw [e1] at rx
        have e := rx.v_inv
        exact Does.same hR ⟨_, by simp [e, Builtin.len_, run_underlying hu, goInt], .v Γ _⟩
      · simp at h
    · rename_i el hu
      simp only [Option.some.injEq] at hc; subst hc
      simp only [aop] at h
      generalize x.ev tm = X at h rx
      have go : ∀ (n : Nat), lenA X = some n → (∃ p c, a.eval y = .slice p n c) → r = .v (.int .i64 n) → H' = Γ.H → Does P Γ id (builtin .len #[t] ty consts (#[y].map a.eval)) r H' := by
        intro n _ ⟨p, c, e⟩ e2 e3
        subst e2; subst e3
        exact Does.same hR ⟨_, by simp [e, Builtin.len_, run_underlying hu, goInt], .v Γ _⟩
      have tail : out Γ.H ((lenA X).map fun (n : Nat) => .v (.int .i64 n)) = some (.val r H') → (∀ (n : Nat), lenA X = some n → ∃ p c, a.eval y = .slice p n c) → Does P Γ id (builtin .len #[t] ty consts (#[y].map a.eval)) r H' := by
        intro h' hs
        obtain ⟨h1, h2⟩ := out_some h'
        obtain ⟨n, hn, e⟩ := Option.map_eq_some_iff.1 h1
        exact go n hn (hs n hn) e.symm h2
      cases X with
      | v u =>
        cases u with
        | string q => simp at h
        | slice p m c =>
          refine tail h fun n hn => ?_
          simp [lenA] at hn; subst hn
          exact ⟨p, c, rx.v_inv⟩
        | _ => exact absurd h (by simp [out, lenA])
      | osl c off len e lb =>
        refine tail h fun n hn => ?_
        simp [lenA] at hn; subst hn
        obtain ⟨bb, o', cap, e, _⟩ := rx.osl_inv
        exact ⟨_, _, e⟩
      | fsl len cells =>
        refine tail h fun n hn => ?_
        simp [lenA] at hn; subst hn
        rcases rx.fsl_inv.fsl_inv with ⟨rfl, _, p, cap, e⟩ | ⟨bb, off, cap, f, e, _⟩
        · exact ⟨_, _, e⟩
        · exact ⟨_, _, e⟩
      | _ => exact absurd h (by simp [out, lenA])
    · simp at hc
  · -- append
    rename_i s x t u hx hts
    obtain ⟨y, y2, rfl, hy, hy2⟩ := args2 hx
    have := ats2 hts; subst this
    split at hc
    · rename_i e d hu hu2
      split at hc
      · rename_i i zs hi hz
        cases hn : notInt d with
        | false => simp [hn] at hc
        | true =>
          simp only [hn, cond_true, Option.some.injEq] at hc; subst hc
          obtain ⟨i', z, z1, z2, z3, rfl⟩ := zeroL_ok hz
          rw [hi] at z1; injection z1 with z1; subst z1
          simp only [aop] at h
          obtain ⟨⟨r', H2⟩, h1, h2⟩ := Option.map_eq_some_iff.1 h
          simp only [Out.val.injEq] at h2
          obtain ⟨rfl, rfl⟩ := h2
          have := append_ok (P := P) hR hid (ty := ty) hu hu2 (fun k hk => by subst hk; simp [notInt] at hn) hi z2 z3 (compO_ok ht hy) (compO_ok ht hy2) h1
          exact .of_val (by simpa using this)
      · simp at hc
    · simp at hc
  · -- copy
    rename_i d s t u hx hts
    obtain ⟨y, y2, rfl, hy, hy2⟩ := args2 hx
    have := ats2 hts; subst this
    split at hc
    · rename_i e hu
      obtain ⟨i, hi, rfl⟩ := Option.map_eq_some_iff.1 hc
      have rd := compO_ok ht hy
      have rs := compO_ok ht hy2
      simp only [aop] at h
      split at h
      · rename_i dl sl e1 e2
        split at h
        · simp at h
        · rename_i cs hcs
          obtain ⟨arr, hf, hall⟩ := elems_ok (P := P) hR hcs rs
          have hls := lenA_ok (P := P) e2 rs Γ.w
          have hcl := elems_len hcs
          have hal : arr.toList.length = Nat.min sl dl * i.size := hall.1 ▸ hcl
          -- the machine's own copy, up to the stores
          have mach : ∀ (base : Option Addr) (cap : Nat) (w' : World), a.eval y = .slice base dl cap → (match base with | some ad => storeCells ad arr.toList | none => pure () : Sem Unit).run P Γ.w = .ok () w' →
              (Builtin.copy_ #[t, u] ty (#[y, y2].map a.eval)).run P Γ.w = .ok (.int .i64 (Nat.min sl dl : Nat)) w' := by
            intro base cap w' e hst
            cases base with
            | none =>
              simp at hst; subst hst
              simp [Builtin.copy_, run_underlying hu, e, hls, run_sizeOf hi, hf, goInt]
            | some ad =>
              simp only at hst
              simp [Builtin.copy_, run_underlying hu, e, hls, run_sizeOf hi, hf, goInt, hst]
          cases hn0 : Nat.beq (Nat.min sl dl) 0 with
          | true =>
            simp only [hn0, cond_true, Option.some.injEq, Out.val.injEq] at h
            obtain ⟨rfl, rfl⟩ := h
            have hn : Nat.min sl dl = 0 := Nat.eq_of_beq_eq_true hn0
            have hnil : arr.toList = [] := by
              rw [hn] at hal; simp at hal; simpa using hal
            have fin : ∀ base cap, a.eval y = .slice base dl cap → Does P Γ id (builtin .copy #[t, u] ty consts (#[y, y2].map a.eval)) (.v (.int .i64 0)) Γ.H := by
              intro base cap e
              have := mach base cap Γ.w e (by rw [hnil]; cases base <;> simp [storeCells])
              rw [hn] at this
              exact Does.same hR ⟨_, this, .v Γ _⟩
            have hnostr : ∀ q, d.ev tm ≠ .v (.string q) := fun q hq => by rw [hq] at e1; simp [dlenA] at e1
            have e1 := dlen_len e1
            generalize d.ev tm = D at rd e1 hnostr
            cases D with
            | osl c off len e lb =>
              obtain ⟨bb, o', cap, e, _⟩ := rd.osl_inv
              simp [lenA] at e1; subst e1
              exact fin _ _ e
            | fsl len cells =>
              simp [lenA] at e1; subst e1
              rcases rd.fsl_inv.fsl_inv with ⟨rfl, _, p, cap, e⟩ | ⟨bb, off, cap, f, e, _⟩
              · exact fin _ _ e
              · exact fin _ _ e
            | v z =>
              cases z with
              | slice p m c => simp [lenA] at e1; subst e1; exact fin _ _ rd.v_inv
              | string q => exact absurd rfl (hnostr q)
              | _ => simp [lenA] at e1
            | _ => simp [lenA] at e1
          | false =>
            simp only [hn0, cond_false] at h
            split at h
            · rename_i c off len e lb ed
              split at h
              · simp at h
              · rename_i ch hg
                cases hb : (Nat.beq e i.size && Nat.ble (off + Nat.min sl dl * i.size) ch.cells.length && oneAll cs) with
                | false => simp [hb] at h
                | true =>
                  simp only [hb, cond_true, Option.some.injEq, Out.val.injEq] at h
                  obtain ⟨rfl, rfl⟩ := h
                  simp only [Bool.and_eq_true] at hb
                  have hle : off + Nat.min sl dl * i.size ≤ ch.cells.length := Nat.le_of_ble_eq_true hb.1.2
                  rw [ed] at rd
                  obtain ⟨bb, o', cap, ev, hU, ho, hlen, hlb, hbk⟩ := rd.osl_inv
                  obtain ⟨rfl, _⟩ := hbk ch hg
                  rw [ed] at e1
                  simp [dlenA, lenA] at e1; subst e1
                  have hne : Nat.min sl len ≠ 0 := fun hz => by rw [hz] at hn0; simp at hn0
                  have hlp : 0 < len := by
                    rcases Nat.eq_zero_or_pos len with h0 | h0
                    · subst h0; simp at hne
                    · exact h0
                  have : o' = off := by rcases ho with h | h <;> omega
                  subst this
                  obtain ⟨Γ', s1, s2, s3, s4, s5, s6, s7⟩ := setCells_ok (P := P) hR hg hall hb.2 (off := o') (by rw [hcl]; exact hle)
                  have := mach (some ⟨Γ.blk c, o', none⟩) cap Γ'.w ev s1
                  exact .of_val ⟨_, Γ', this, s2, s3, s4, .v Γ' _, fun k hk => .inl (s5 ▸ hk)⟩
            · simp at h
      · simp at h
    · simp at hc
  · -- clear
    rename_i s t hx hts
    obtain ⟨y, rfl, hy⟩ := args1 hx
    have := ats1 hts; subst this
    split at hc
    · rename_i e hu
      split at hc
      · rename_i i zs hi hz
        simp only [Option.some.injEq] at hc; subst hc
        obtain ⟨i', z, z1, z2, z3, rfl⟩ := zeroL_ok hz
        rw [hi] at z1; injection z1 with z1; subst z1
        have rx := compO_ok ht hy
        simp only [aop] at h
        split at h
        · rename_i m c e1
          simp only [Option.some.injEq, Out.val.injEq] at h
          obtain ⟨rfl, rfl⟩ := h
          rw [e1] at rx
          exact Does.same hR ⟨.tuple #[], by simp [rx.v_inv, Builtin.clear_, run_underlying hu], .v Γ _⟩
        · rename_i c off len e' lb e1
          rw [e1] at rx
          obtain ⟨bb, o', cap, ev, hU, ho, hlen, hlb, hbk⟩ := rx.osl_inv
          cases hl0 : Nat.beq len 0 with
          | true =>
            simp only [hl0, cond_true, Option.some.injEq, Out.val.injEq] at h
            obtain ⟨rfl, rfl⟩ := h
            have := Nat.eq_of_beq_eq_true hl0
            subst this
            exact Does.same hR ⟨.tuple #[], by simp [ev, Builtin.clear_, run_underlying hu], .v Γ _⟩
          | false =>
            simp only [hl0, cond_false] at h
            split at h
            · simp at h
            · rename_i ch hg
              cases hb : (Nat.beq e' i.size && Nat.beq (z.cells.toList.map AV.v).length i.size && Nat.ble (off + len * i.size) ch.cells.length && oneAll (z.cells.toList.map AV.v)) with
              | false => simp only [hb, cond_false] at h; simp at h
              | true =>
                simp only [hb, cond_true, Option.some.injEq, Out.val.injEq] at h
                obtain ⟨rfl, rfl⟩ := h
                simp only [Bool.and_eq_true] at hb
                have hle : off + len * i.size ≤ ch.cells.length := Nat.le_of_ble_eq_true hb.1.2
                obtain ⟨rfl, _⟩ := hbk ch hg
                have hlp : len ≠ 0 := fun hz => by rw [hz] at hl0; simp at hl0
                have : o' = off := by rcases ho with h | h <;> omega
                subst this
                have hone : oneAll (repA (z.cells.toList.map AV.v) len) = true := by
                  have : ∀ (p q : List AV), oneAll p = true → oneAll q = true → oneAll (p ++ q) = true := by
                    intro p q h1 h2
                    induction p with
                    | nil => simpa using h2
                    | cons x xs ih => simp only [oneAll, Bool.and_eq_true, List.cons_append] at h1 ⊢; exact ⟨h1.1, ih h1.2⟩
                  generalize len = n
                  induction n with
                  | zero => rfl
                  | succ n ih => exact this _ _ hb.2 ih
                have hall := repA_ok Γ z.cells len
                obtain ⟨Γ', s1, s2, s3, s4, s5, s6, s7⟩ := setCells_ok (P := P) hR hg hall hone (off := o') (by rw [repA_len, List.length_map, Array.length_toList, z3]; exact hle)
                refine .of_val ⟨.tuple #[], Γ', ?_, s2, s3, s4, .v Γ' _, fun k hk => .inl (s5 ▸ hk)⟩
                have s1' : (storeCells ⟨Γ.blk c, o', none⟩ (Builtin.zeroCells z.cells len).toList).run P Γ.w = .ok () Γ'.w := s1
                obtain ⟨l', rfl⟩ : ∃ l', len = l' + 1 := ⟨len - 1, by omega⟩
                simp [ev, Builtin.clear_, run_underlying hu, run_zeroValue hi z2, s1']
        · simp at h
      · simp at hc
    · simp at hc
  · -- max
    rename_i xs hx
    simp only [Option.some.injEq] at hc; subst hc
    simp only [aop] at h
    obtain ⟨h1, rfl⟩ := out_some h
    have hall := compOs_ok ht hx
    generalize xs.map (·.ev tm) = l at h1 hall
    cases l with
    | nil => simp [maxA] at h1
    | cons x l =>
      obtain ⟨v, vs, ev, hv, hvs⟩ := hall.uncons
      cases x with
      | v q =>
        have := hv.v_inv; subst this
        cases v with
        | int k n =>
          simp only [maxA] at h1
          obtain ⟨z, rfl, hz⟩ := foldM_ok (P := P) true hvs h1
          simp only [cond_true] at hz
          exact Does.same hR ⟨z, by simp only [Builtin.max_, ev]; exact hz, .v Γ z⟩
        | _ => simp [maxA] at h1
      | _ => simp [maxA] at h1
  · -- min
    rename_i xs hx
    simp only [Option.some.injEq] at hc; subst hc
    simp only [aop] at h
    obtain ⟨h1, rfl⟩ := out_some h
    have hall := compOs_ok ht hx
    generalize xs.map (·.ev tm) = l at h1 hall
    cases l with
    | nil => simp [maxA] at h1
    | cons x l =>
      obtain ⟨v, vs, ev, hv, hvs⟩ := hall.uncons
      cases x with
      | v q =>
        have := hv.v_inv; subst this
        cases v with
        | int k n =>
          simp only [maxA] at h1
          obtain ⟨z, rfl, hz⟩ := foldM_ok (P := P) false hvs h1
          simp only [cond_false] at hz
          exact Does.same hR ⟨z, by simp only [Builtin.min_, ev]; exact hz, .v Γ z⟩
        | _ => simp [maxA] at h1
      | _ => simp [maxA] at h1
  · simp at hc

theorem does_op {P : Program} {Γ : Ctx} (hR : HRel Γ) {id : Nat} (hid : ¬ Γ.U id) {tm : TM} {a : Act} (ht : TR Γ tm a) {o : Oper} {ao : AOp} (hc : compOp P o.op = some ao)
    {r : AV} {H' : Heap} (h : aop ao tm id Γ.H = some (.val r H')) : Does P Γ id (execOp a.eval o) r H' := by
  obtain ⟨dst, op, ty, pos, after, guard⟩ := o
  simp only at hc
  cases op with
  | move x =>
    obtain ⟨ax, hx, rfl⟩ := Option.map_eq_some_iff.1 hc
    simp only [aop, Option.some.injEq, Out.val.injEq] at h
    obtain ⟨rfl, rfl⟩ := h
    exact Does.pure hR (compO_ok ht hx)
  | assign x =>
    obtain ⟨ax, hx, rfl⟩ := Option.map_eq_some_iff.1 hc
    simp only [aop, Option.some.injEq, Out.val.injEq] at h
    obtain ⟨rfl, rfl⟩ := h
    exact Does.pure hR (compO_ok ht hx)
  | pick c x y =>
    simp only [compOp] at hc
    split at hc
    · rename_i ac ax ay h1 h2 h3
      simp only [Option.some.injEq] at hc; subst hc
      simp only [aop] at h
      split at h
      · simp at h
      · rename_i t hb
        simp only [Option.some.injEq, Out.val.injEq] at h
        obtain ⟨rfl, rfl⟩ := h
        have e := boolA_ok hb (compO_ok ht h1)
        refine ⟨.value (if t then a.eval x else a.eval y), Γ, by simp [execOp, e, asBool], rfl, Ev.refl Γ, hR, fun _ h => .inl h, .inl ⟨_, rfl, ?_⟩⟩
        cases t
        · exact compO_ok ht h3
        · exact compO_ok ht h2
    · simp at hc
  | alloc e =>
    obtain ⟨zs, hz, rfl⟩ := Option.map_eq_some_iff.1 hc
    obtain ⟨i, z, h1, h2, h3, rfl⟩ := zeroL_ok hz
    simp only [aop, Option.some.injEq, Out.val.injEq] at h
    obtain ⟨rfl, rfl⟩ := h
    exact .of_val (alloc_ok hR hid h1 h2)
  | box e x =>
    simp only [compOp] at hc
    split at hc
    · rename_i i ax h1 h2
      simp only [Option.some.injEq] at hc; subst hc
      simp only [aop] at h
      cases hb' : Nat.beq (ax.ev tm).cells.length i.size with
      | false => simp [hb'] at h
      | true =>
        simp only [hb', cond_true, Option.some.injEq, Out.val.injEq] at h
        obtain ⟨rfl, rfl⟩ := h
        exact .of_val (box_ok hR hid e (compO_ok ht h2))
    · simp at hc
  | build t parts =>
    simp only [compOp] at hc
    have body : ∀ {zs : List AV} {place : Nat → Option (Nat × Nat)} {as : List (Nat × Nat × AO)}, zeroL P t = some zs → compParts place parts.toList = some as → ao = .build zs as →
        (∀ z, (∃ i, P.info? t = some i ∧ i.zero = some z) → ∀ cells, Instr.fill place z.cells (parts.map fun (i, x) => (i, a.eval x)).toList = some cells → (Instr.build t (parts.map fun (i, x) => (i, a.eval x))).run P Γ.w = .ok (.agg cells) Γ.w) →
        Does P Γ id (execOp a.eval ⟨dst, .build t parts, ty, pos, after, guard⟩) r H' := by
      intro zs place as hz hp e hrun
      subst e
      obtain ⟨i, z, z1, z2, z3, rfl⟩ := zeroL_ok hz
      simp only [aop] at h
      obtain ⟨h1, rfl⟩ := out_some h
      obtain ⟨cs, hcs, rfl⟩ := Option.map_eq_some_iff.1 h1
      obtain ⟨p1, p2⟩ := parts_ok ht hp
      obtain ⟨cells, f1, f2⟩ := All2.fill _ _ _ _ z.cells (zero_cells Γ z) hcs p1 p2
      refine Does.same hR ⟨.agg cells, hrun z ⟨i, z1, z2⟩ cells (by simpa using f1), ?_⟩
      have := f2.arr
      rwa [Array.toArray_toList] at this
    split at hc
    · rename_i fs i zs hu hi hz
      split at hc
      · simp at hc
      · rename_i places hpl
        obtain ⟨as, has, rfl⟩ := Option.map_eq_some_iff.1 hc
        refine body hz has rfl fun z ⟨i', hi', hz'⟩ cells hf => run_build Γ.w t _ cells ?_
        simp [Program.built, hi', hu, hz', hpl]
        simpa using hf
    · rename_i n e i zs hu hi hz
      split at hc
      · simp at hc
      · rename_i ie hie
        obtain ⟨as, has, rfl⟩ := Option.map_eq_some_iff.1 hc
        refine body hz has rfl fun z ⟨i', hi', hz'⟩ cells hf => run_build Γ.w t _ cells ?_
        simp [Program.built, hi', hu, hz', hie]
        simpa using hf
    · simp at hc
  | buildSlice t n parts =>
    simp only [compOp] at hc
    split at hc
    · rename_i e hu
      split at hc
      · rename_i i zs hi hz
        split at hc
        · rename_i hsz
          obtain ⟨as, has, rfl⟩ := Option.map_eq_some_iff.1 hc
          obtain ⟨i', z, z1, z2, z3, rfl⟩ := zeroL_ok hz
          rw [hi] at z1; injection z1 with z1; subst z1
          simp only [aop] at h
          split at h
          · simp at h
          · rename_i cs hcs
            simp only [Option.some.injEq, Out.val.injEq] at h
            obtain ⟨rfl, rfl⟩ := h
            obtain ⟨p1, p2⟩ := parts_ok ht has
            obtain ⟨cells, f1, f2⟩ := All2.fill (place := fun k => some (k * i.size, i.size)) _ _ _ _ _ (repA_ok Γ z.cells n) hcs p1 p2
            obtain ⟨Γ', n1, n2, n3, n4, n5, n6, n7, n8⟩ := new_ok (P := P) hR hid e f2
            have hrun := run_buildSlice hu hi z2 z3 hsz (parts := parts.map fun (i, x) => (i, a.eval x)) (by simpa using f1) Γ.w
            have hnr : Γ'.w = Γ.w.alloc (.cells cells e (0, 0)) := by
              have := n1
              simp [newRow] at this
              exact this.symm
            rw [← hnr] at hrun
            refine .of_val ⟨_, Γ', hrun, n2, n3, n4, RL.newSlice n6 n7 ?_ n (Nat.le_refl _), n5⟩
            rw [n8]
            have := f2.1
            have hl : cs.length = n * i.size := by
              rw [fillA_len hcs, repA_len, List.length_map, Array.length_toList, z3]
            simp at this; omega
        · simp at hc
      · simp at hc
    · simp at hc
  | load t x =>
    simp only [compOp] at hc
    split at hc
    · rename_i d i ax hu hi hx
      simp only [Option.some.injEq] at hc; subst hc
      simp only [aop] at h
      obtain ⟨h1, rfl⟩ := out_some h
      exact .of_val (load_ok hR id hu hi (compO_ok ht hx) h1)
    · simp at hc
  | store t x y =>
    simp only [compOp] at hc
    split at hc
    · rename_i i ax ay hi hx hy
      simp only [Option.some.injEq] at hc; subst hc
      simp only [aop] at h
      obtain ⟨H2, h1, h2⟩ := Option.map_eq_some_iff.1 h
      simp only [Out.val.injEq] at h2
      obtain ⟨rfl, rfl⟩ := h2
      obtain ⟨Γ', s1, s2, s3, s4, s5⟩ := store_ok (P := P) hR id hi (compO_ok ht hx) (compO_ok ht hy) h1
      exact ⟨.skip, Γ', by simp [execOp, s1], s2, s3, s4, s5, .inr ⟨rfl, .v Γ' _⟩⟩
    · simp at hc
  | nilCheck x =>
    obtain ⟨ax, hx, rfl⟩ := Option.map_eq_some_iff.1 hc
    simp only [aop] at h
    have rx := compO_ok ht hx
    split at h <;> first | (simp at h; done) | (simp only [Option.some.injEq, Out.val.injEq] at h; obtain ⟨rfl, rfl⟩ := h; rename_i e1; rw [e1] at rx)
    · obtain ⟨b, e, _⟩ := rx.ptr_inv
      refine ⟨.value (a.eval x), Γ, by simp [execOp, e], rfl, Ev.refl Γ, hR, fun _ h => .inl h, .inl ⟨_, rfl, rx⟩⟩
    · obtain ⟨b, off, f, e, _⟩ := rx.eptr_inv.eptr_inv
      refine ⟨.value (a.eval x), Γ, by simp [execOp, e], rfl, Ev.refl Γ, hR, fun _ h => .inl h, .inl ⟨_, rfl, rx⟩⟩
    · obtain ⟨vs, e, _⟩ := rx.fn_inv
      refine ⟨.value (a.eval x), Γ, by simp [execOp, e], rfl, Ev.refl Γ, hR, fun _ h => .inl h, .inl ⟨_, rfl, rx⟩⟩
  | binOp b t x y yt => exact does_bin hR ht hc h
  | unOp b t x =>
    obtain ⟨ax, hx, rfl⟩ := Option.map_eq_some_iff.1 hc
    simp only [aop] at h
    have rx := compO_ok ht hx
    split at h
    · rename_i u e1
      obtain ⟨h1, rfl⟩ := out_some h
      obtain ⟨z, hz, rfl⟩ := Option.map_eq_some_iff.1 h1
      rw [e1] at rx
      have e := rx.v_inv
      exact Does.same hR ⟨z, by rw [e]; exact un_ok hz Γ.w, .v Γ z⟩
    · simp at h
  | convert s d x =>
    simp only [compOp, compConv] at hc
    split at hc
    · rename_i k' k ax hs hd hx
      simp only [Option.some.injEq] at hc; subst hc
      simp only [aop] at h
      have rx := compO_ok ht hx
      split at h
      · rename_i kk n e1
        simp only [Option.some.injEq, Out.val.injEq] at h
        obtain ⟨rfl, rfl⟩ := h
        rw [e1] at rx
        have e := rx.v_inv
        exact Does.same hR ⟨_, by rw [e]; simp [convert, run_underlying hs, run_underlying hd, Conv.intToInt], .v Γ _⟩
      · simp at h
    · rename_i e' ax hs hd hx
      split at hc
      · rename_i he
        simp only [Option.some.injEq] at hc; subst hc
        simp only [aop] at h
        have rx := compO_ok ht hx
        generalize ax.ev tm = X at h rx
        have go : ∀ {n : Nat} {cs : List AV} {bs : List UInt8}, lenA X = some n → elemsA Γ.H 1 n X = some cs → bytesOf cs = some bs → (∀ q, X ≠ .v (.string q)) → r = .v (.string ⟨bs.toArray⟩) → H' = Γ.H →
            Does P Γ id (execOp a.eval ⟨dst, .convert s d x, ty, pos, after, guard⟩) r H' := by
          intro n cs bs h1 h2 h3 h4 h5 h6
          subst h5; subst h6
          exact Does.same hR ⟨_, b2s_ok hR hs he hd rx h1 h2 h3 h4, .v Γ _⟩
        have tail : (match lenA X with
            | none => none
            | some n => match elemsA Γ.H 1 n X with
              | none => none
              | some cs => out Γ.H ((bytesOf cs).map fun bs => .v (.string ⟨bs.toArray⟩))) = some (.val r H') → (∀ q, X ≠ .v (.string q)) → Does P Γ id (execOp a.eval ⟨dst, .convert s d x, ty, pos, after, guard⟩) r H' := by
          intro ht' hq
          split at ht'
          · simp at ht'
          · rename_i n hn
            split at ht'
            · simp at ht'
            · rename_i cs hcs
              obtain ⟨h1, h2⟩ := out_some ht'
              obtain ⟨bs, hbs, e⟩ := Option.map_eq_some_iff.1 h1
              exact go hn hcs hbs hq e.symm h2
        cases X with
        | v y =>
          cases y with
          | slice p m c =>
            cases p with
            | none =>
              simp only [Option.some.injEq, Out.val.injEq] at h
              obtain ⟨rfl, rfl⟩ := h
              have e := rx.v_inv
              exact Does.same hR ⟨_, by rw [e]; exact run_convert_bytes_nil Γ.w s e' hs he m c d hd, .v Γ _⟩
            | some p => simp at h
          | _ => simp at h
        | _ => exact tail h (by simp)
      · simp at hc
    · rename_i e' ax hs hd hx
      split at hc
      · rename_i he
        simp only [Option.some.injEq] at hc; subst hc
        simp only [aop] at h
        have rx := compO_ok ht hx
        split at h
        · rename_i q e1
          simp only [Option.some.injEq, Out.val.injEq] at h
          obtain ⟨rfl, rfl⟩ := h
          rw [e1] at rx
          have e := rx.v_inv
          have hrun := run_bytes_of_string (P := P) Γ.w s d e' q hs hd he
          generalize hcap : grownCap Γ.w q.size 0 e' = cap at hrun
          have hcap' : q.size ≤ cap := by rw [← hcap]; exact grownCap_ge _ _ _ _
          generalize hw : (Γ.w.drew.alloc (.cells (bytesRow q cap) e' ((bytesRow q cap).size, (bytesRow q cap).size + 1))) = w' at hrun
          have hwn : w'.heap[Γ.w.heap.size]? = some (.cells (bytesRow q cap) e' ((bytesRow q cap).size, (bytesRow q cap).size + 1)) := by rw [← hw]; exact alloc_new Γ.w.drew _
          have hws : w'.heap.size = Γ.w.heap.size + 1 := by rw [← hw]; exact alloc_size Γ.w.drew _
          have hwo : ∀ b, b < Γ.w.heap.size → w'.heap[b]? = Γ.w.heap[b]? := fun b hb => by rw [← hw]; exact alloc_old Γ.w.drew _ b hb
          obtain ⟨e2, e3⟩ := ev_frozen hR w' (fun b => b = Γ.w.heap.size) (fun b hb => by omega) (by omega) hwo (by rw [← hw]; rfl) (by rw [← hw]; rfl) (by rw [← hw]; rfl)
          refine .of_val ⟨.slice (some ⟨Γ.w.heap.size, 0, none⟩) q.size cap, { Γ with w := w', F := fun b => Γ.F b ∨ b = Γ.w.heap.size }, by rw [e]; exact hrun, rfl, e2, e3, ?_, fun c hc => .inl hc⟩
          have hcell : ∀ (j : Nat) (x : AV), (cellsOfBytes q.data.toList)[j]? = some x → ∃ b : UInt8, x = .v (.int .u8 b.toNat) ∧ (bytesRow q cap)[j]? = some (.int .u8 b.toNat) := by
            intro j x hj
            have hb := (bytes_cells Γ q.data.toList).get hj
            have hl : ∀ (l : List UInt8) (j : Nat) (x : AV), (cellsOfBytes l)[j]? = some x → ∃ b : UInt8, l[j]? = some b ∧ x = .v (.int .u8 b.toNat) := by
              intro l
              induction l with
              | nil => intro j x h; simp [cellsOfBytes] at h
              | cons b r ih =>
                intro j x h
                cases j with
                | zero => simp [cellsOfBytes] at h; exact ⟨b, rfl, h.symm⟩
                | succ j => simp [cellsOfBytes] at h; simpa using ih j x h
            obtain ⟨b, hb1, hb2⟩ := hl _ j x hj
            refine ⟨b, hb2, ?_⟩
            have hb3 : q.data[j]? = some b := by simpa using hb1
            have hjs : j < q.data.size := (Array.getElem?_eq_some_iff.1 hb3).1
            rw [bytesRow, Array.getElem?_append_left (by simpa using hjs)]
            simp [hb3]
          refine .tree (.fsl Γ.w.heap.size 0 q.size cap _ (fun j => ((bytesRow q cap)[j]?).getD undef) (.inr rfl) hcap' ?_ ?_)
          · intro j x hj
            obtain ⟨b, _, hb⟩ := hcell j x hj
            show w'.cell? _ = _
            rw [cell_of_arr hwn, Nat.zero_add, hb]; rfl
          · intro j x hj
            obtain ⟨b, rfl, hb⟩ := hcell j x hj
            show RT _ _ _ (((bytesRow q cap)[j]?).getD undef)
            rw [hb]; exact .v _
        · simp at h
      · simp at hc
    · rename_i ax hs hd hx
      simp only [Option.some.injEq] at hc; subst hc
      simp only [aop] at h
      have rx := compO_ok ht hx
      split at h
      · rename_i q e1
        simp only [Option.some.injEq, Out.val.injEq] at h
        obtain ⟨rfl, rfl⟩ := h
        rw [e1] at rx
        have e := rx.v_inv
        exact Does.same hR ⟨_, by rw [e]; simp [convert, run_underlying hs, run_underlying hd], .v Γ _⟩
      · simp at h
    · simp at hc
  | makeFunc fn first caps =>
    cases fn with
    | func g =>
      simp only [compOp] at hc
      cases hf : first.isEmpty with
      | false => simp [hf] at hc
      | true =>
        simp only [hf, cond_true] at hc
        obtain ⟨as, has, rfl⟩ := Option.map_eq_some_iff.1 hc
        simp only [aop, Option.some.injEq, Out.val.injEq] at h
        obtain ⟨rfl, rfl⟩ := h
        have hfe : first = #[] := by simpa using hf
        subst hfe
        have hall := compOs_ok ht has
        refine Does.same hR ⟨.func (.func g) #[] (caps.map a.eval), by simp [Instr.makeFunc], ?_⟩
        exact .fn g _ _ (by have := hall.1; simpa using this) (fun j x y h1 h2 => hall.2 j x y h1 (by simpa using h2))
    | _ => simp [compOp] at hc
  | slice t x lo hi mx =>
    simp only [compOp] at hc
    split at hc
    · rename_i ax al ah hu hx hl hh hm
      simp only [Option.some.injEq] at hc; subst hc
      simp only [aop] at h
      obtain ⟨h1, rfl⟩ := out_some h
      have hmn : mx = none := by
        cases mx with
        | none => rfl
        | some m => simp [compOO] at hm
      subst hmn
      exact Does.same hR (sliceS_ok hu (compO_ok ht hx) (compOO_ok ht hl) (compOO_ok ht hh) h1 Γ.w)
    · rename_i e ax al ah am hu hx hl hh hm
      obtain ⟨i, hi', rfl⟩ := Option.map_eq_some_iff.1 hc
      simp only [aop] at h
      obtain ⟨h1, rfl⟩ := out_some h
      exact Does.same hR (slice_ok hu hi' (compO_ok ht hx) (compOO_ok ht hl) (compOO_ok ht hh) (compOO_ok ht hm) h1 Γ.w)
    · simp at hc
  | fieldAddr s x f =>
    simp only [compOp] at hc
    split at hc
    · rename_i fs ax hu hx
      split at hc
      · simp at hc
      · rename_i fd hfd
        split at hc
        · simp at hc
        · rename_i i hi
          split at hc
          · simp at hc
          · rename_i hs
            simp only [Option.some.injEq] at hc; subst hc
            simp only [aop] at h
            obtain ⟨h1, rfl⟩ := out_some h
            exact Does.same hR (faddr_ok hu hfd hi hs (compO_ok ht hx) h1 Γ.w)
    · simp at hc
  | field s x f =>
    simp only [compOp] at hc
    split at hc
    · rename_i fs ax hu hx
      split at hc
      · simp at hc
      · rename_i fd hfd
        split at hc
        · rename_i d i hd hi
          simp only [Option.some.injEq] at hc; subst hc
          simp only [aop] at h
          have rx := compO_ok ht hx
          split at h
          · rename_i cs e1
            rw [e1] at rx
            obtain ⟨vs, ev, l1, g1⟩ := rx.agg_inv
            have hh : (bif aggD d then (bif Nat.ble (fd.offset + i.size) cs.length then some (AV.agg ((cs.drop fd.offset).take i.size)) else none) else cs[fd.offset]?) = some r ∧ H' = Γ.H := by
              cases hd' : aggD d with
              | true =>
                simp only [hd', cond_true] at h ⊢
                cases hb : Nat.ble (fd.offset + i.size) cs.length with
                | false => simp [hb] at h
                | true => simp only [hb, cond_true, Option.some.injEq, Out.val.injEq] at h ⊢; exact ⟨h.1, h.2.symm⟩
              | false =>
                simp only [hd', cond_false] at h ⊢
                exact out_some h
            obtain ⟨h1, rfl⟩ := hh
            obtain ⟨v, hv, hr⟩ := part_ok (P := P) hd hi (All2.of_arr l1 g1) h1 Γ.w
            exact Does.same hR ⟨v, by rw [ev]; simp [Instr.field, run_underlying hu, hfd, asAgg, hv], hr⟩
          · simp at h
        · simp at hc
    · simp at hc
  | indexAddr t x ix =>
    simp only [compOp] at hc
    split at hc
    · rename_i e ax ai hu hx hi
      obtain ⟨ie, hie, rfl⟩ := Option.map_eq_some_iff.1 hc
      simp only [aop] at h
      split at h
      · simp at h
      · rename_i n hn
        obtain ⟨k, ek⟩ := intA_ok hn (compO_ok ht hi)
        obtain ⟨h1, rfl⟩ := out_some h
        exact Does.same hR (by rw [ek]; exact iaddr_slice hu hie (compO_ok ht hx) h1 Γ.w)
    · rename_i m e ax ai hu hx hi
      obtain ⟨ie, hie, rfl⟩ := Option.map_eq_some_iff.1 hc
      simp only [aop] at h
      split at h
      · simp at h
      · rename_i n hn
        obtain ⟨k, ek⟩ := intA_ok hn (compO_ok ht hi)
        split at h
        · rename_i hcnd
          obtain ⟨h1, rfl⟩ := out_some h
          exact Does.same hR (by rw [ek]; exact iaddr_array hu hie (compO_ok ht hx) hcnd.1 hcnd.2 h1 Γ.w)
        · simp at h
    · simp at hc
  | extract x i =>
    obtain ⟨ax, hx, rfl⟩ := Option.map_eq_some_iff.1 hc
    simp only [aop] at h
    have rx := compO_ok ht hx
    split at h
    · rename_i vs e1
      obtain ⟨h1, rfl⟩ := out_some h
      rw [e1] at rx
      obtain ⟨us, ev, l1, g1⟩ := rx.tup_inv
      obtain ⟨v, hv, hr⟩ := (All2.of_arr l1 g1).get h1
      have hv' : us[i]? = some v := by simpa using hv
      exact Does.same hR ⟨v, by rw [ev]; simp [Instr.extract, hv'], hr⟩
    · simp at h
  | makeSlice t l c =>
    simp only [compOp] at hc
    split at hc
    · rename_i e hu
      split at hc
      · rename_i i zs al ac hi hz hl hcp
        simp only [Option.some.injEq] at hc; subst hc
        obtain ⟨i', z, z1, z2, z3, rfl⟩ := zeroL_ok hz
        rw [hi] at z1; injection z1 with z1; subst z1
        simp only [aop] at h
        split at h
        · rename_i ln cn e1 e2
          split at h
          · rename_i hb
            simp only [Option.some.injEq, Out.val.injEq] at h
            obtain ⟨rfl, rfl⟩ := h
            obtain ⟨k1, q1⟩ := intA_ok e1 (compO_ok ht hl)
            obtain ⟨k2, q2⟩ := intA_ok e2 (compO_ok ht hcp)
            obtain ⟨c0, rfl⟩ := Int.eq_ofNat_of_zero_le (show 0 ≤ cn by omega)
            obtain ⟨l0, rfl⟩ := Int.eq_ofNat_of_zero_le hb.1
            have hcells := repA_ok Γ z.cells c0
            rw [z3] at hcells
            obtain ⟨Γ', n1, n2, n3, n4, n5, n6, n7, n8⟩ := new_ok (P := P) hR hid e hcells
            have hrun : (Instr.makeSlice t (a.eval l) (a.eval c)).run P Γ.w = .ok (.slice (some ⟨Γ.w.heap.size, 0, none⟩) l0 c0) Γ'.w := by
              rw [q1, q2]
              exact run_mkslice hu hi z2 z3 (by omega) (by have := hb.2.2.1; omega) (by omega) n1
            refine .of_val ⟨_, Γ', hrun, n2, n3, n4, ?_, n5⟩
            have := RL.newSlice (esz := i.size) (n := c0) n6 n7 (by rw [n8]; simp) l0 (by omega)
            simpa using this
          · simp at h
        · simp at h
      · simp at hc
    · simp at hc
  | index t x ix =>
    simp only [compOp] at hc
    split at hc
    · rename_i ax ai hu hx hi
      simp only [Option.some.injEq] at hc; subst hc
      simp only [aop] at h
      have rx := compO_ok ht hx
      split at h
      · rename_i q n e1 hn
        obtain ⟨k, ek⟩ := intA_ok hn (compO_ok ht hi)
        split at h
        · rename_i h0
          obtain ⟨h1, rfl⟩ := out_some h
          obtain ⟨b, hb, rfl⟩ := Option.map_eq_some_iff.1 h1
          rw [e1] at rx
          have e := rx.v_inv
          have hq : q[n.toNat]? = some b := by
            have hl : n.toNat < q.data.toList.length := (List.getElem?_eq_some_iff.1 hb).1
            have hs : n.toNat < q.size := by simpa using hl
            have hb2 := (List.getElem?_eq_some_iff.1 hb).2
            rw [getElem?_pos q n.toNat hs]
            exact congrArg some hb2
          exact Does.same hR ⟨.int .u8 b.toNat, by rw [ek, e]; simp [Instr.index, asIntOf, run_underlying hu, h0, hq], .v Γ _⟩
        · simp at h
      · simp at h
    · rename_i m e ax ai hu hx hi
      split at hc
      · rename_i d ie hd hie
        simp only [Option.some.injEq] at hc; subst hc
        simp only [aop] at h
        have rx := compO_ok ht hx
        split at h
        · rename_i cs n e1 hn
          obtain ⟨k, ek⟩ := intA_ok hn (compO_ok ht hi)
          split at h
          · rename_i hb
            rw [e1] at rx
            obtain ⟨vs, ev, l1, g1⟩ := rx.agg_inv
            have hh : (bif aggD d then (bif Nat.ble (n.toNat * ie.size + ie.size) cs.length then some (AV.agg ((cs.drop (n.toNat * ie.size)).take ie.size)) else none) else cs[n.toNat * ie.size]?) = some r ∧ H' = Γ.H := by
              cases hd' : aggD d with
              | true =>
                simp only [hd', cond_true] at h ⊢
                cases hb' : Nat.ble (n.toNat * ie.size + ie.size) cs.length with
                | false => simp [hb'] at h
                | true => simp only [hb', cond_true, Option.some.injEq, Out.val.injEq] at h ⊢; exact ⟨h.1, h.2.symm⟩
              | false =>
                simp only [hd', cond_false] at h ⊢
                exact out_some h
            obtain ⟨h1, rfl⟩ := hh
            obtain ⟨v, hv, hr⟩ := part_ok (P := P) hd hie (All2.of_arr l1 g1) h1 Γ.w
            exact Does.same hR ⟨v, by rw [ek, ev]; simp [Instr.index, asIntOf, run_underlying hu, hb.1, hb.2, run_sizeOf hie, hv], hr⟩
          · simp at h
        · simp at h
      · simp at hc
    · simp at hc
  | call c =>
    simp only [compOp] at hc
    split at hc
    · rename_i b hcal
      have hex : execOp a.eval ⟨dst, .call c, ty, pos, after, guard⟩ = builtin b c.argTypes ty (c.args.map fun | .const _ => true | _ => false) (c.args.map a.eval) := by
        simp only [execOp, resolve, hcal, invoke]
        rfl
      rw [hex]
      exact does_builtin hR hid ht hc h
    · split at hc
      · simp only [Option.some.injEq] at hc; subst hc; simp [aop] at h
      · simp only [Option.some.injEq] at hc; subst hc
        simp only [aop] at h
        split at h <;> simp at h
      · simp at hc
    · simp at hc
  | _ => simp [compOp] at hc

end Go.Am
