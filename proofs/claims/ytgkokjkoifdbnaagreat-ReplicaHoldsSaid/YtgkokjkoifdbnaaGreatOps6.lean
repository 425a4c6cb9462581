import Derived.Test.YtgkokjkoifdbnaaGreatOps5
/- Slicing, copy, clear, bytes and strings, make, max and min. -/
namespace Go.Am
set_option autoImplicit false
set_option linter.unusedSimpArgs false
set_option linter.unusedVariables false

theorem sliceS_ok {P : Program} {Γ : Ctx} {t : TypeId} (hu : P.underlying t = some .string) {x r : AV} {xv : Value} (hx : RL Γ x xv)
    {lo hi : Option AV} {lv hv : Option Value} (hl : RO Γ lo lv) (hh : RO Γ hi hv) (h : sliceSA x lo hi = some r) (w : World) :
    ∃ v, (Instr.sliceAt t xv lv hv none).run P w = .ok v w ∧ RL Γ r v := by
  unfold sliceSA at h
  split at h
  · rename_i s
    have := hx.v_inv; subst this
    split at h
    · rename_i l hh' e1 e2
      cases hc : (Nat.ble l hh' && Nat.ble hh' s.size) with
      | false => simp [hc] at h
      | true =>
        simp only [hc, cond_true, Option.some.injEq] at h
        subst h
        simp only [Bool.and_eq_true] at hc
        have hb := bounds_ok (P := P) (Γ := Γ) (mx := none) (mv := none) (cap := s.size) (m := s.size) (m' := s.size) hl hh trivial false e1 e2 (by simp [optI]) (Nat.le_of_ble_eq_true hc.1) (Nat.le_of_ble_eq_true hc.2) (Nat.le_refl _) (by simp) (Nat.le_refl _) w
        exact ⟨_, by simp [Instr.sliceAt, Instr.slice, run_underlying hu, hb], .v Γ _⟩
    · simp at h
  · simp at h

theorem slice_ok {P : Program} {Γ : Ctx} {t el : TypeId} {i : TypeInfo} (hu : P.underlying t = some (.slice el)) (hi' : P.info? el = some i)
    {x r : AV} {xv : Value} (hx : RL Γ x xv)
    {lo hi mx : Option AV} {lv hv' mv : Option Value} (hl : RO Γ lo lv) (hh : RO Γ hi hv') (hm : RO Γ mx mv) (h : sliceA i.size x lo hi mx = some r) (w : World) :
    ∃ v, (Instr.sliceAt t xv lv hv' mv).run P w = .ok v w ∧ RL Γ r v := by
  simp only [sliceA] at h
  cases hmh : (mx.isSome && !hi.isSome) with
  | true => rw [hmh] at h; simp at h
  | false =>
  rw [hmh] at h
  simp only [cond_false] at h
  have hmx : mx.isSome → hi.isSome := by
    intro hms; cases hi <;> simp_all
  have at_slice : (Instr.sliceAt t xv lv hv' mv).run P w = (Instr.slice t xv lv hv' mv).run P w := by
    simp [Instr.sliceAt, run_underlying hu]
  rw [at_slice]
  split at h
  · -- a chunk's
    rename_i c off len e lb
    obtain ⟨b, off', cap, rfl, hU, ho, hln, hlb, hbk⟩ := hx.osl_inv'
    cases e1 : optI lo 0 with
    | none => simp [e1] at h
    | some l =>
    cases e2 : optI hi len with
    | none => simp [e1, e2] at h
    | some h' =>
    cases e3 : optI mx lb with
    | none => simp [e1, e2, e3] at h
    | some m =>
    simp only [e1, e2, e3] at h
    cases hc : (Nat.beq e i.size && Nat.ble l h' && Nat.ble h' m && Nat.ble m lb) with
    | false => simp [hc] at h
    | true =>
      simp only [hc, cond_true, Option.some.injEq] at h
      subst h
      simp only [Bool.and_eq_true] at hc
      have he : e = i.size := Nat.eq_of_beq_eq_true hc.1.1.1
      subst he
      have h1 := Nat.le_of_ble_eq_true hc.1.1.2
      have h2 := Nat.le_of_ble_eq_true hc.1.2
      have h3 := Nat.le_of_ble_eq_true hc.2
      have hb := bounds_ok (P := P) (Γ := Γ) (cap := cap) hl hh hm true e1 e2 e3 h1 h2 (by omega) hmx hlb w
      generalize hM : (if mx.isSome then m else cap) = M at hb
      have hMm : m ≤ M ∧ M ≤ cap := by
        rw [← hM]; split <;> omega
      refine ⟨.slice (if M = l then some ⟨b, off', none⟩ else some ⟨b, off' + l * i.size, none⟩) (h' - l) (M - l), ?_, ?_⟩
      · simp only [Instr.slice, run_underlying hu, Sem.run_bind, Result.andThen_ok, hb, run_sizeOf hi', Sem.run_pure, Option.map_some, add_none]
      · by_cases hMl : M = l
        · rw [if_pos hMl]
          exact .osl c _ _ _ _ b off' (M - l) hU (.inl (by omega)) (by omega) (by omega) ⟨hbk.1, by
            have := hbk.2
            have e : M - l = 0 := by omega
            rw [e, Nat.zero_mul, Nat.add_zero]
            have := Nat.mul_le_mul_right i.size (show l ≤ cap by omega)
            omega⟩
        · rw [if_neg hMl]
          have : off' = off := by rcases ho with h | h <;> omega
          subst this
          exact .osl c _ _ _ _ b _ (M - l) hU (.inr rfl) (by omega) (by omega) ⟨hbk.1, by
            have := hbk.2
            have e : off' + l * i.size + (M - l) * i.size = off' + M * i.size := by rw [Nat.add_assoc, ← Nat.add_mul]; congr 2; omega
            rw [e]
            have := Nat.mul_le_mul_right i.size hMm.2
            omega⟩
  · -- what stays
    rename_i len cells
    cases e1 : optI lo 0 with
    | none => simp [e1] at h
    | some l =>
    cases e2 : optI hi len with
    | none => simp [e1, e2] at h
    | some h' =>
    cases e3 : optI mx len with
    | none => simp [e1, e2, e3] at h
    | some m =>
    simp only [e1, e2, e3] at h
    cases hc : (Nat.ble l h' && Nat.ble h' m && Nat.ble m len && Nat.beq cells.length (len * i.size)) with
    | false => simp [hc] at h
    | true =>
      simp only [hc, cond_true, Option.some.injEq] at h
      subst h
      simp only [Bool.and_eq_true] at hc
      have h1 := Nat.le_of_ble_eq_true hc.1.1.1
      have h2 := Nat.le_of_ble_eq_true hc.1.1.2
      have h3 := Nat.le_of_ble_eq_true hc.1.2
      have hcl : cells.length = len * i.size := Nat.eq_of_beq_eq_true hc.2
      rcases hx.fsl_inv.fsl_inv with ⟨rfl, rfl, a, cap, rfl⟩ | ⟨b, off, cap, f, rfl, hF, hlc, hcc, hrr⟩
      · have hb := bounds_ok (P := P) (Γ := Γ) (cap := cap) hl hh hm true e1 e2 e3 h1 h2 (by omega) hmx (by omega) w
        have hl0 : l = 0 := by omega
        have hh0 : h' = 0 := by omega
        subst hl0; subst hh0
        generalize hM : (if mx.isSome then m else cap) = M at hb
        refine ⟨.slice (if M = 0 then some a else some (a.add 0)) 0 M, ?_, ?_⟩
        · simp [Instr.slice, run_underlying hu, hb, run_sizeOf hi']
        · have : (if M = 0 then some a else some (a.add 0)) = some a := by simp [Addr.add]
          rw [this]
          simpa using RL.tree (RT.fnil a M)
      · have hb := bounds_ok (P := P) (Γ := Γ) (cap := cap) hl hh hm true e1 e2 e3 h1 h2 (by omega) hmx hlc w
        generalize hM : (if mx.isSome then m else cap) = M at hb
        have hMm : m ≤ M ∧ M ≤ cap := by
          rw [← hM]; split <;> omega
        refine ⟨.slice (if M = l then some ⟨b, off, none⟩ else some ⟨b, off + l * i.size, none⟩) (h' - l) (M - l), ?_, ?_⟩
        · simp only [Instr.slice, run_underlying hu, Sem.run_bind, Result.andThen_ok, hb, run_sizeOf hi', Sem.run_pure, Option.map_some, add_none]
        · by_cases hMl : M = l
          · rw [if_pos hMl]
            have : h' - l = 0 := by omega
            rw [this, Nat.zero_mul, List.take_zero]
            exact .tree (.fnil _ _)
          · rw [if_neg hMl]
            refine .tree (.fsl b (off + l * i.size) (h' - l) (M - l) _ (fun j => f (l * i.size + j)) hF (by omega) ?_ ?_)
            · intro j a ha
              rw [List.getElem?_take] at ha
              split at ha
              · rw [List.getElem?_drop] at ha; rw [Nat.add_assoc]; exact hcc _ a ha
              · simp at ha
            · intro j a ha
              rw [List.getElem?_take] at ha
              split at ha
              · rw [List.getElem?_drop] at ha; exact hrr _ a ha
              · simp at ha
  · -- nil
    have := hx.v_inv; subst this
    split at h
    · rename_i e1 e2 e3
      simp only [Option.some.injEq] at h; subst h
      have hb := bounds_ok (P := P) (Γ := Γ) (cap := 0) hl hh hm true e1 e2 e3 (Nat.le_refl _) (Nat.le_refl _) (Nat.le_refl _) hmx (Nat.le_refl _) w
      refine ⟨.slice none 0 0, ?_, .v Γ _⟩
      have : (if mx.isSome then 0 else 0) = 0 := by split <;> rfl
      rw [this] at hb
      simp [Instr.slice, run_underlying hu, hb, run_sizeOf hi']
    · simp at h
  · simp at h

end Go.Am
