import Derived.Test.YtgkokjkoifdbnaaGreatComp2
/- Regions whose order is open: what the run in the text's order tells, every order does. -/
namespace Go.Am
set_option autoImplicit false
set_option linter.unusedSimpArgs false
set_option linter.unusedVariables false

/-! ### A part of the memory -/
theorem HRel.part {Γ : Ctx} (hR : HRel Γ) {Hc : Heap} (hs : ∀ c ch, hget Hc c = some ch → hget Γ.H c = some ch) : HRel { Γ with H := Hc } := by
  refine ⟨fun c ch hc => ?_, fun c c' ch ch' h1 h2 he => hR.inj c c' ch ch' (hs c ch h1) (hs c' ch' h2) he, fun c ch hc => hR.sep c ch (hs c ch hc), hR.bnd⟩
  obtain ⟨h1, arr, h2, h3, h4, h5⟩ := hR.ok c ch (hs c ch hc)
  exact ⟨h1, arr, h2, h3, h4, fun j a x ha hx => (h5 j a x ha hx).reH _⟩
theorem Ev.reH {Γ Γ' : Ctx} (h : Ev Γ Γ') {H' : Heap} (hs : ∀ c, hget H' c = hget Γ'.H c) : Ev Γ { Γ' with H := H' } :=
  ⟨h.U, fun c ch' hU hc => h.keep c ch' hU (by rw [← hs]; exact hc), h.F, h.Fnew, h.size, fun b hb hf => ⟨(h.frame b hb hf).1, fun c ch hc => (h.frame b hb hf).2 c ch (by rw [← hs]; exact hc)⟩, h.os, h.tape, h.output, h.same⟩

/-- What was done in a part of the memory, the rest standing by. -/
theorem frame_ok {Γ : Ctx} (hR : HRel Γ) {Hc Hr : Heap} (hs : ∀ c ch, hget Hc c = some ch → hget Γ.H c = some ch) (hr : ∀ c ch, hget Hr c = some ch → hget Γ.H c = some ch ∧ hget Hc c = none)
    {Γ' : Ctx} (bev : Ev { Γ with H := Hc } Γ') (bok : HRel Γ') : Ev Γ { Γ' with H := Γ'.H ++ Hr } ∧ HRel { Γ' with H := Γ'.H ++ Hr } := by
  have hRc := hR.part hs
  have hfree : ∀ c ch, hget Hr c = some ch → Γ.blk c < Γ.w.heap.size ∧ ({ Γ with H := Hc } : Ctx).free (Γ.blk c) := by
    intro c ch hc
    obtain ⟨hg, hm⟩ := hr c ch hc
    obtain ⟨_, arr, h1, _⟩ := hR.ok c ch hg
    refine ⟨heap_lt h1, fun c' ch' hc' he => ?_⟩
    have := hR.inj c' c ch' ch (hs c' ch' hc') hg he
    subst this
    have hc2 : hget Hc c' = some ch' := hc'
    rw [hm] at hc2; simp at hc2
  have hgm : ∀ c ch, hget (Γ'.H ++ Hr) c = some ch → hget Γ'.H c = some ch ∨ hget Hr c = some ch := by
    intro c ch hc
    rw [hget_append] at hc
    cases hg : hget Γ'.H c with
    | none => rw [hg] at hc; exact .inr hc
    | some x => rw [hg] at hc; exact .inl hc
  have hUof : ∀ c ch, hget Hr c = some ch → Γ.U c := fun c ch hc => (hR.ok c ch (hr c ch hc).1).1
  constructor
  · refine ⟨bev.U, ?_, bev.F, bev.Fnew, bev.size, ?_, bev.os, bev.tape, bev.output, bev.same⟩
    · intro c ch' hUc hc
      rcases hgm c ch' hc with hc | hc
      · obtain ⟨ch, h1, h2, h3⟩ := bev.keep c ch' hUc hc
        exact ⟨ch, hs c ch h1, h2, h3⟩
      · exact ⟨ch', (hr c ch' hc).1, bev.same c hUc⟩
    · intro b hb hf
      obtain ⟨k1, k2⟩ := bev.frame b hb (fun c ch hc => hf c ch (hs c ch hc))
      refine ⟨k1, fun c ch hc => ?_⟩
      rcases hgm c ch hc with hc | hc
      · exact k2 c ch hc
      · show Γ'.blk c ≠ b
        rw [(bev.same c (hUof c ch hc)).1]
        exact hf c ch (hr c ch hc).1
  · refine ⟨fun c ch hc => ?_, fun c c' ch ch' hc hc' he => ?_, fun c ch hc hF => ?_, bok.bnd⟩
    · rcases hgm c ch hc with hc | hc
      · obtain ⟨h1, arr, h2, h3, h4, h5⟩ := bok.ok c ch hc
        exact ⟨h1, arr, h2, h3, h4, fun j a x ha hx => (h5 j a x ha hx).reH _⟩
      · obtain ⟨h1, arr, h2, h3, h4, h5⟩ := hR.ok c ch (hr c ch hc).1
        obtain ⟨k1, k2⟩ := hfree c ch hc
        refine ⟨bev.U c h1, arr, ?_, h3.trans (bev.same c h1).2.symm, h4, fun j a x ha hx => (((h5 j a x ha hx).reH _).ev hRc bev).reH _⟩
        show Γ'.w.heap[Γ'.blk c]? = _
        rw [(bev.same c h1).1]
        exact (bev.frame _ k1 k2).1.trans h2
    · have he : Γ'.blk c = Γ'.blk c' := he
      rcases hgm c ch hc with hc | hc <;> rcases hgm c' ch' hc' with hc' | hc'
      · exact bok.inj c c' ch ch' hc hc' he
      · rw [(bev.same c' (hUof c' ch' hc')).1] at he
        obtain ⟨k1, k2⟩ := hfree c' ch' hc'
        exact absurd he ((bev.frame _ k1 k2).2 c ch hc)
      · rw [(bev.same c (hUof c ch hc)).1] at he
        obtain ⟨k1, k2⟩ := hfree c ch hc
        exact absurd he.symm ((bev.frame _ k1 k2).2 c' ch' hc')
      · rw [(bev.same c (hUof c ch hc)).1, (bev.same c' (hUof c' ch' hc')).1] at he
        exact hR.inj c c' ch ch' (hr c ch hc).1 (hr c' ch' hc').1 he
    · rcases hgm c ch hc with hc | hc
      · exact bok.sep c ch hc hF
      · have hF : Γ'.F (Γ'.blk c) := hF
        rw [(bev.same c (hUof c ch hc)).1] at hF
        rcases bev.Fnew _ hF with hF | hF
        · exact hR.sep c ch (hr c ch hc).1 hF
        · have := (hfree c ch hc).1
          have : Γ.w.heap.size ≤ Γ.blk c := hF
          omega

/-! ### Two that are not ordered -/
structure Sep (T : Table) (o p : AOper) (d e : DR) : Prop where
  t : ∀ k, p.dst = some k → k ∉ o.tmps ∧ o.dst ≠ some k
  rd : ∀ c ∈ d.rd, c ∉ e.dm
  dm : ∀ c ∈ d.dm, c ∉ e.dm
  nx : ¬ (o.op.numbers T = true ∧ p.op.numbers T = true)

theorem dstOut_iff {p o : AOper} (h : dstOut p o = true) : ∀ k, p.dst = some k → k ∉ o.tmps ∧ o.dst ≠ some k := by
  intro k hk
  simp only [dstOut, hk, Bool.and_eq_true, Bool.not_eq_true'] at h
  refine ⟨fun hm => ?_, fun he => ?_⟩
  · have := memN_iff.2 hm
    rw [h.1] at this; simp at this
  · simp [he] at h

theorem meets_rd {T : Table} {o p : AOper} {d e : DR} (h : meets T o.op p.op = false) (ho : (o.op.looks = false → d.rd = []) ∧ (o.op.makes T = false → d.dm = [])) (hp : (p.op.looks = false → e.rd = []) ∧ (p.op.makes T = false → e.dm = [])) :
    (∀ c ∈ d.rd, c ∉ e.dm) ∧ (∀ c ∈ d.dm, c ∉ e.rd) ∧ (∀ c ∈ d.dm, c ∉ e.dm) := by
  simp only [meets] at h
  cases hml : o.op.makes T with
  | false =>
    have e1 := ho.2 hml
    simp only [hml, Bool.or_false, Bool.false_and, Bool.or_false] at h
    refine ⟨?_, by simp [e1], by simp [e1]⟩
    cases hmp : p.op.makes T with
    | false => simp [hp.2 hmp]
    | true =>
      have : o.op.looks = false := by simpa [hmp] using h
      simp [ho.1 this]
  | true =>
    simp only [hml, Bool.or_true, Bool.true_and] at h
    have hmp : p.op.makes T = false := by
      cases hx : p.op.makes T <;> simp [hx] at h ⊢
    have hlp : p.op.looks = false := by
      cases hx : p.op.looks <;> simp [hx] at h ⊢
    simp [hp.1 hlp, hp.2 hmp]

end Go.Am
