import Derived.Test.YtgkokjkoifdbnaaGreatStep2
import Derived.Laws.IdiomStrings
import Derived.Laws.BytesArg
namespace Go.Am
set_option autoImplicit false
set_option linter.unusedSimpArgs false
set_option linter.unusedVariables false

theorem bytesOf_ok {Γ : Ctx} : ∀ {cs : List AV} {vs : List Value} {bs : List UInt8}, All2 (RL Γ) cs vs → bytesOf cs = some bs → ∃ ns : List Int, vs = ns.map (Value.int .u8) ∧ bs = ns.map (fun n => UInt8.ofNat n.toNat)
  | [], vs, bs, h, hb => by
    have := h.1; simp at this
    rw [List.eq_nil_of_length_eq_zero this.symm]
    simp [bytesOf] at hb; subst hb
    exact ⟨[], rfl, rfl⟩
  | c :: cs, vs, bs, h, hb => by
    obtain ⟨v, vs', rfl, hv, hvs⟩ := h.uncons
    cases c with
    | v x =>
      have := hv.v_inv; subst this
      cases v with
      | int k n =>
        cases k <;> simp only [bytesOf] at hb <;> first | (simp at hb; done) | skip
        obtain ⟨l, hl, rfl⟩ := Option.map_eq_some_iff.1 hb
        obtain ⟨ns, e1, e2⟩ := bytesOf_ok hvs hl
        exact ⟨n :: ns, by simp [e1], by simp [e2]⟩
      | _ => simp [bytesOf] at hb
    | _ => simp [bytesOf] at hb

/-- The bytes of a slice, as a string. -/
theorem b2s_ok {P : Program} {Γ : Ctx} (hR : HRel Γ) {src dst e : TypeId} (hs : P.underlying src = some (.slice e)) (he : P.underlying e = some (.int .u8)) (hd : P.underlying dst = some .string)
    {x : AV} {xv : Value} (hx : RL Γ x xv) {n : Nat} (hn : lenA x = some n) {cs : List AV} (hc : elemsA Γ.H 1 n x = some cs) {bs : List UInt8} (hb : bytesOf cs = some bs) (hxs : ∀ s, x ≠ .v (.string s)) :
    (convert src dst xv).run P Γ.w = .ok (.string ⟨bs.toArray⟩) Γ.w := by
  obtain ⟨arr, hf, hall⟩ := elems_ok (P := P) hR hc hx
  obtain ⟨ns, e1, e2⟩ := bytesOf_ok hall hb
  have fin : ∀ (p : Addr) (m c : Nat), xv = .slice (some p) m c → m = n → (convert src dst xv).run P Γ.w = .ok (.string ⟨bs.toArray⟩) Γ.w := by
    intro p m c e hm
    subst e; subst hm
    have hl : (loadCells p m).run P Γ.w = .ok (ns.map (Value.int .u8)).toArray Γ.w := by
      have : (Builtin.firstCells 1 m (.slice (some p) m c)).run P Γ.w = (loadCells p m).run P Γ.w := by simp [Builtin.firstCells]
      rw [← this, hf, ← e1]
    rw [run_convert_bytes_string Γ.w src dst e _ m c hs he hd, run_bytesToString Γ.w _ m c ns hl, foldl_push_bytes]
    subst e2
    simp [ByteArray.empty, ByteArray.emptyWithCapacity]
    rfl
  cases x with
  | osl c off len e lb =>
    obtain ⟨b, off', cap, rfl, _⟩ := hx.osl_inv
    simp [lenA] at hn
    exact fin _ _ _ rfl hn
  | fsl len cells =>
    simp [lenA] at hn
    rcases hx.fsl_inv.fsl_inv with ⟨rfl, _, a, cap, rfl⟩ | ⟨b, off, cap, f, rfl, _⟩
    · exact fin _ _ _ rfl hn
    · exact fin _ _ _ rfl hn
  | v y =>
    have := hx.v_inv; subst this
    cases xv with
    | slice p m c =>
      cases p with
      | some p => simp [elemsA] at hc
      | none =>
        simp [lenA] at hn
        subst hn
        simp only [elemsA] at hc
        cases hz : Nat.beq m 0 with
        | false => simp [hz] at hc
        | true =>
          simp [hz] at hc; subst hc
          simp [bytesOf] at hb; subst hb
          rw [run_convert_bytes_nil Γ.w src e hs he m c dst hd]
          rfl
    | string s => exact absurd rfl (hxs s)
    | _ => simp [lenA] at hn
  | _ => simp [lenA] at hn

theorem foldM_ok {P : Program} {Γ : Ctx} (mx : Bool) : ∀ {xs : List AV} {vs : List Value} {k : IntKind} {n : Int} {r : AV}, All2 (RL Γ) xs vs → foldM mx k n xs = some r → ∃ v, r = .v v ∧ (vs.foldlM (bif mx then Builtin.max2 else Builtin.min2) (.int k n) : Sem Value).run P Γ.w = .ok v Γ.w
  | [], vs, k, n, r, h, hr => by
    have := h.1; simp at this
    rw [List.eq_nil_of_length_eq_zero this.symm]
    simp [foldM] at hr; subst hr
    exact ⟨_, rfl, by simp⟩
  | x :: xs, vs, k, n, r, h, hr => by
    obtain ⟨v, vs', rfl, hv, hvs⟩ := h.uncons
    cases x with
    | v y =>
      have := hv.v_inv; subst this
      cases v with
      | int k' m =>
        simp only [foldM] at hr
        obtain ⟨u, hu, hrun⟩ := foldM_ok (P := P) mx hvs hr
        refine ⟨u, hu, ?_⟩
        cases mx
        · simp only [cond_false] at hrun ⊢
          simp [List.foldlM_cons, Builtin.min2, hrun]
        · simp only [cond_true] at hrun ⊢
          simp [List.foldlM_cons, Builtin.max2, hrun]
      | _ => simp [foldM] at hr
    | _ => simp [foldM] at hr

end Go.Am
