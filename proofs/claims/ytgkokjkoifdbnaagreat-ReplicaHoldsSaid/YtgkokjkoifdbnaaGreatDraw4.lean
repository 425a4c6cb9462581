import Derived.Test.YtgkokjkoifdbnaaGreatDraw3
/- Regions whose order is open: one operation in its turn. -/
namespace Go.Am
set_option autoImplicit false
set_option linter.unusedSimpArgs false
set_option linter.unusedVariables false

theorem goes_congr {tm tm' : TM} {o : AOper} (h : ∀ t ∈ o.tmps, tget tm t = tget tm' t) : goes tm o = goes tm' o := by
  unfold goes
  cases hg : o.guard with
  | none => rfl
  | some p =>
    obtain ⟨t, want⟩ := p
    simp only []
    rw [h t (by simp [AOper.tmps, hg])]
theorem opds_congr {tm tm' : TM} {o : AOper} (h : ∀ t ∈ o.tmps, tget tm t = tget tm' t) : ∀ x ∈ o.op.opds, x.ev tm = x.ev tm' :=
  ev_congr fun t ht => h t (by simp [AOper.tmps, ht])

theorem numbers_makes {T : Table} {op : AOp} (h : op.numbers T = true) : op.makes T = true := by
  cases op <;> simp [AOp.numbers, AOp.makes] at h ⊢
  rename_i g as
  unfold inG at h; unfold ownG
  split at h
  · simpa using h
  · simp at h

theorem dopA_spec {T : Table} {ex : Exec} {id : Nat} {o : AOper} {s : St} {d : DR} (h : dopA T ex id o s = some d) (hg : goes s.tm o = true) : ∃ H2 nx2,
    ((aop o.op s.tm id (hin d.rd s.H) = some (.val d.r H2) ∧ nx2 = s.nx) ∨ ∃ g args, aop o.op s.tm id (hin d.rd s.H) = some (.call g args) ∧ callF T ex id g args (hin d.rd s.H) s.nx = some (d.r, H2, nx2)) ∧
    (o.op.makes T = true → d.wr = d.rd ∧ d.H2 = H2) ∧ (o.op.makes T = false → d.wr = [] ∧ d.H2 = [] ∧ H2 = hin d.rd s.H) ∧ (o.op.numbers T = true → d.nx = nx2) := by
  unfold dopA at h
  simp only [hg, cond_true] at h
  split at h
  · simp at h
  · rename_i a H2 he
    simp only [Option.some.injEq] at h
    subst h
    cases hm : o.op.makes T with
    | true => exact ⟨H2, s.nx, .inl ⟨he, rfl⟩, fun _ => ⟨rfl, rfl⟩, fun h => by simp at h, fun _ => rfl⟩
    | false => exact ⟨H2, s.nx, .inl ⟨he, rfl⟩, fun h => by simp at h, fun _ => ⟨rfl, rfl, aop_same hm he⟩, fun _ => rfl⟩
  · rename_i g args he
    split at h
    · simp at h
    · rename_i a H2 nx hc
      simp only [Option.some.injEq] at h
      subst h
      cases hm : o.op.makes T with
      | true => exact ⟨H2, nx, .inr ⟨g, args, he, hc⟩, fun _ => ⟨rfl, rfl⟩, fun h => by simp at h, fun hn => by simp [hn]⟩
      | false =>
        refine ⟨H2, nx, .inr ⟨g, args, he, hc⟩, fun h => by simp at h, fun _ => ⟨rfl, rfl, ?_⟩, fun hn => by have := numbers_makes hn; rw [hm] at this; simp at this⟩
        rcases aop_call he with ⟨as, e, _⟩ | ⟨f, as, caps, e, _⟩
        · have hown : ownG T g = true := by simpa [e, AOp.makes] using hm
          exact callF_own hown hc
        · simp [e, AOp.makes] at hm

theorem call_nx {T : Table} {ex : Exec} {id : Nat} {op : AOp} {tm : TM} {H H0 : Heap} {g : Nat} {args : List AV} (he : aop op tm id H0 = some (.call g args)) (hn : op.numbers T = false) {nx nx2 m : Nat} {r : AV} {H2 : Heap} (hc : callF T ex id g args H nx = some (r, H2, nx2)) :
    callF T ex id g args H m = some (r, H2, m) := by
  rcases aop_call he with ⟨as, e, _⟩ | ⟨f, as, caps, e, _⟩
  · have : inG T g = false := by simpa [e, AOp.numbers] using hn
    exact (callF_nx this hc).2 m
  · simp [e, AOp.numbers] at hn

def Inv (Γ0 : Ctx) (ws : List Wr) (σ0 : Sg) (base n : Nat) (L : Nat → Bool) (D : Nat → Bool) (a : Act) (w : World) : Prop :=
  ∃ Γ s, Γ.w = w ∧ Now Γ s a ∧ sg s = foldW D ws 0 σ0 ∧ thas s.tm = L ∧ Ev Γ0 Γ ∧ base + n ≤ s.nx ∧ (∀ c, Γ.U c → Γ0.U c ∨ (∃ j, D j = true ∧ c = base + j) ∨ base + n ≤ c)

theorem op_turn {P : Program} {comp : Code → Option ACode} {T : Table} (hT : TabOK P comp T) {ex : Exec} (hex : WpOK P comp ex) {ops : Array Oper} {Γ0 : Ctx} {as : List AOper} {ds : List DR} {σ0 : Sg} {base n : Nat} {L : Nat → Bool} (hU0 : ∀ c, Γ0.U c → c < base)
    {D : Nat → Bool} {i : Nat} (hin' : i < n) (hDi : D i = false) {o : Oper} (ho : ops[i]? = some o) {ao : AOper} {d : DR} {si : St} (hao : as[i]? = some ao) (hd : ds[i]? = some d) (hc : compOp P o.op = some ao.op ∨ ao.op = .bad) (hdst : ao.dst = o.dst)
    (hwant : ∀ (Γ : Ctx) (tm : TM) (a : Act), TR Γ tm a → Region.wanted o (yielded ops a.tmps) = goes tm ao)
    (hdo : dopA T ex (base + i) ao si = some d) (hL : thas si.tm = L) (hsi : sg si = foldW (fun j => decide (j < i)) (wsOf T L as ds) 0 σ0)
    (hagree : ∀ l : Loc, (match l with
      | .t k => k ∈ ao.tmps
      | .c c => c ∈ d.rd
      | .x => ao.op.numbers T = true) → foldW (fun j => decide (j < i)) (wsOf T L as ds) 0 σ0 l = foldW D (wsOf T L as ds) 0 σ0 l)
    (hins : foldW (fun j => D j || j == i) (wsOf T L as ds) 0 σ0 = (wOf T L ao d).ap (foldW D (wsOf T L as ds) 0 σ0))
    {Q : Exit → Act → World → Prop} {K : Act → World → Prop} (hK : ∀ a w, Inv Γ0 (wsOf T L as ds) σ0 base n L (fun j => D j || j == i) a w → K a w)
    {a : Act} {w : World} (hI : Inv Γ0 (wsOf T L as ds) σ0 base n L D a w) : wpOp P ops Q i K a w := by
  obtain ⟨Γ, s, rfl, hnow, hsg, hsL, hev, hnx, hU⟩ := hI
  have agt : ∀ k ∈ ao.tmps, tget si.tm k = tget s.tm k := by
    intro k hk
    have := hagree (.t k) hk
    rw [← hsi, ← hsg] at this
    simp only [sg, LV.a.injEq] at this
    exact this
  have agc : ∀ c ∈ d.rd, hget si.H c = hget Γ.H c := by
    intro c hc
    have := hagree (.c c) hc
    rw [← hsi, ← hsg] at this
    simp only [sg, LV.h.injEq] at this
    rw [hnow.H]; exact this
  have agx : ao.op.numbers T = true → si.nx = s.nx := by
    intro hx
    have := hagree .x hx
    rw [← hsi, ← hsg] at this
    simp only [sg, LV.n.injEq] at this
    exact this
  have hgo : goes s.tm ao = goes si.tm ao := (goes_congr agt).symm
  have hw := hwant Γ s.tm a hnow.tr
  -- what was set, with a number of its own
  have hwof : ∀ m, (ao.op.numbers T = true → m = d.nx) → wOf T L ao { d with nx := m } = wOf T L ao d := by
    intro m hm
    funext l
    cases l with
    | t k => rfl
    | c c => rfl
    | x =>
      simp only [wOf]
      split
      · rename_i hn; rw [hm hn]
      · rfl
  have hUn : ∀ c, Γ.U c → Γ0.U c ∨ (∃ j, (D j || j == i) = true ∧ c = base + j) ∨ base + n ≤ c := fun c hc => (hU c hc).imp id fun h => h.imp (fun ⟨j, h1, h2⟩ => ⟨j, by simp [h1], h2⟩) id
  unfold wpOp
  simp only [ho]
  cases hg : goes si.tm ao with
  | false =>
    have hwf : Region.wanted o (yielded ops a.tmps) = false := by rw [hw, hgo, hg]
    simp only [hwf, if_false, Bool.false_eq_true]
    have hd' : d = ⟨aundef, [], [], [], si.nx⟩ := by
      unfold dopA at hdo
      simp only [hg, cond_false, Option.some.injEq] at hdo
      exact hdo.symm
    apply hK
    refine ⟨Γ, dput s ao.dst { d with nx := s.nx }, rfl, ⟨?_, hnow.ok, ?_, ?_, ?_⟩, ?_, ?_, hev, hnx, hUn⟩
    · simp only [dput, hd', hout, List.nil_append]; exact hnow.H
    · simp only [dput, hd', hdst]
      exact put_ok hnow.tr o.dst (RL.v Γ _)
    · exact hnow.lt
    · rw [put_defers]; exact hnow.df
    · rw [sg_dput (T := T) hsL (fun _ => rfl), hwof _ (fun hx => by rw [← agx hx, hd']), hins, hsg]
    · simp only [dput]; cases ao.dst <;> simp [thas_tset, hsL]
  | true =>
    have hwt : Region.wanted o (yielded ops a.tmps) = true := by rw [hw, hgo, hg]
    simp only [hwt, if_true]
    refine .inl ?_
    obtain ⟨H2, nx2, h1, h2, h3, h4⟩ := dopA_spec hdo hg
    have hopd : ∀ x ∈ ao.op.opds, x.ev si.tm = x.ev s.tm := opds_congr agt
    have hcong := aop_congr hopd (base + i) (hin d.rd si.H)
    have hsub : ∀ c ch, hget (hin d.rd si.H) c = some ch → hget Γ.H c = some ch := by
      intro c ch hc
      rw [hget_hin] at hc
      split at hc
      · rename_i hm; rw [← agc c (memN_iff.1 hm)]; exact hc
      · simp at hc
    have hRc := hnow.ok.part hsub
    have hid : ¬ ({ Γ with H := hin d.rd si.H } : Ctx).U (base + i) := by
      intro h
      rcases hU _ h with h | ⟨j, hj, e⟩ | h
      · have := hU0 _ h; omega
      · have : j = i := by omega
        subst this; rw [hDi] at hj; simp at hj
      · omega
    -- the run, at the number that stands here
    obtain ⟨nx', hrun, hnx'⟩ : ∃ nx', ((aop ao.op s.tm (base + i) (hin d.rd si.H) = some (.val d.r H2) ∧ nx' = s.nx) ∨ ∃ g args, aop ao.op s.tm (base + i) (hin d.rd si.H) = some (.call g args) ∧ callF T ex (base + i) g args (hin d.rd si.H) s.nx = some (d.r, H2, nx')) ∧ (ao.op.numbers T = true → nx' = d.nx) ∧ (ao.op.numbers T = false → nx' = s.nx) := by
      cases hn : ao.op.numbers T with
      | true =>
        refine ⟨nx2, ?_, fun _ => (h4 hn).symm, fun h => by simp at h⟩
        rw [← agx hn, ← hcong]; exact h1
      | false =>
        refine ⟨s.nx, ?_, fun h => by simp at h, fun _ => rfl⟩
        rw [← hcong]
        rcases h1 with ⟨h1, _⟩ | ⟨g, args, h1, hcf⟩
        · exact .inl ⟨h1, rfl⟩
        · exact .inr ⟨g, args, h1, call_nx h1 hn hcf⟩
    have htc : TR { Γ with H := hin d.rd si.H } s.tm a := hnow.tr.imp fun a x hx => hx.reH _
    have hc' : compOp P o.op = some ao.op := by
      rcases hrun with ⟨hx, _⟩ | ⟨_, _, hx, _⟩
      · exact unbad hc hx
      · exact unbad hc hx
    refine op_wp (Γ := { Γ with H := hin d.rd si.H }) hT hex hRc hid hnow.lt htc hc' hrun ?_
    intro v Γ' hb
    obtain ⟨bH, bev, bok, brl, bU, blt, bnx⟩ := hb
    apply hK
    have hrest : ∀ c ch, hget (hpart false d.rd Γ.H) c = some ch → hget Γ.H c = some ch ∧ hget (hin d.rd si.H) c = none := by
      intro c ch hc
      rw [hget_hpart] at hc
      split at hc
      · rename_i hm
        exact ⟨hc, by rw [hget_hin, hm]; simp⟩
      · simp at hc
    obtain ⟨f1, f2⟩ := frame_ok hnow.ok hsub hrest bev bok
    have hsgeq : sg { tm := (dput s ao.dst { d with nx := nx' }).tm, H := Γ'.H ++ hpart false d.rd Γ.H, nx := nx' } = sg (dput s ao.dst { d with nx := nx' }) := by
      funext l
      cases l with
      | t k => rfl
      | x => rfl
      | c c =>
        simp only [sg, dput, LV.h.injEq]
        rw [bH, hget_append, hget_append, hget_hpart, hget_hout]
        cases hm : ao.op.makes T with
        | true =>
          obtain ⟨e1, e2⟩ := h2 hm
          rw [e1, e2, hnow.H]
        | false =>
          obtain ⟨e1, e2, e3⟩ := h3 hm
          rw [e1, e2, e3, hget_hin]
          cases hmem : memN c d.rd with
          | true =>
            have := agc c (memN_iff.1 hmem)
            simp only [if_true, this, hget, memN]
            rw [hnow.H]
            cases hget s.H c <;> simp
          | false => simp [hget, memN, hnow.H]
    refine ⟨{ Γ' with H := Γ'.H ++ hpart false d.rd Γ.H }, { tm := (dput s ao.dst { d with nx := nx' }).tm, H := Γ'.H ++ hpart false d.rd Γ.H, nx := nx' }, rfl, ⟨rfl, f2, ?_, ?_, ?_⟩, ?_, ?_, hev.trans f1, ?_, ?_⟩
    · simp only [dput, hdst]
      refine put_ok (Γ := { Γ' with H := Γ'.H ++ hpart false d.rd Γ.H }) ?_ o.dst (brl.reH _)
      exact htc.imp fun a x hx => (hx.ev hRc bev).reH _
    · intro c hc
      rcases blt c hc with rfl | h
      · show base + i < nx'
        omega
      · exact h
    · rw [put_defers]; exact hnow.df
    · rw [hsgeq, sg_dput (T := T) hsL (fun hn => hnx'.2 hn), hwof _ hnx'.1, hins, hsg]
    · simp only [dput]; cases ao.dst <;> simp [thas_tset, hsL]
    · show base + n ≤ nx'
      omega
    · intro c hc
      rcases bU c hc with h | rfl | h
      · exact hUn c h
      · exact .inr (.inl ⟨i, by simp, rfl⟩)
      · exact .inr (.inr (by omega))

end Go.Am
