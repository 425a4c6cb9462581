import Derived.Test.YtgkokjkoifdbnaaGreatStep4
/- Trees out of the call's own memory; parts of a memory. -/
namespace Go.Am
set_option autoImplicit false
set_option linter.unusedSimpArgs false
set_option linter.unusedVariables false

theorem mapO_some {α β : Type} {f : α → Option β} : ∀ {l : List α} {r : List β}, mapO f l = some r → l.length = r.length ∧ ∀ (j : Nat) (b : β), r[j]? = some b → ∃ x, l[j]? = some x ∧ f x = some b
  | [], r, h => by simp [mapO] at h; subst h; exact ⟨rfl, fun j b h => by simp at h⟩
  | x :: xs, r, h => by
    simp only [mapO] at h
    cases hx : f x with
    | none => simp [hx] at h
    | some y =>
      simp only [hx] at h
      cases hr : mapO f xs with
      | none => simp [hr] at h
      | some ys =>
        simp only [hr, Option.some.injEq] at h
        subst h
        obtain ⟨h1, h2⟩ := mapO_some hr
        refine ⟨by simp [h1], fun j b hb => ?_⟩
        cases j with
        | zero => simp at hb; subst hb; exact ⟨x, rfl, hx⟩
        | succ j => simpa using h2 j b (by simpa using hb)

theorem liveL_get {l : List AV} (h : live.liveL l = false) {j : Nat} {a : AV} (ha : l[j]? = some a) : live a = false := by
  induction l generalizing j with
  | nil => simp at ha
  | cons x r ih =>
    simp only [live.liveL, Bool.or_eq_false_iff] at h
    cases j with
    | zero => simp at ha; subst ha; exact h.1
    | succ j => exact ih h.2 (by simpa using ha)

/-- What a value is, as a tree: in memory (Fx) that holds the chunks that are met, and what stayed already unless that is barred. -/
theorem frz_ok {Γ : Ctx} (hR : HRel Γ) {fresh : Bool} {Fx : Nat → Prop} (hF : fresh = false → ∀ b, Γ.F b → Fx b) :
    ∀ (n : Nat) {a t : AV} {v : Value}, frz fresh Γ.H n a = some t → RL Γ a v → (live a = true → ∀ c ch, hget Γ.H c = some ch → Fx (Γ.blk c)) → RT Fx Γ.w t v := by
  intro n
  induction n with
  | zero => intro a t v h; simp [frz] at h
  | succ n ih =>
    intro a t v h hr hL
    have stay : ∀ {a t : AV} {v : Value}, RT Γ.F Γ.w a v → fresh = false → a = t → RT Fx Γ.w t v := by
      intro a t v h1 h2 h3
      subst h3
      exact h1.mono (hF h2) (fun b _ => rfl)
    have many : ∀ {cs ts : List AV} {vs : List Value}, mapO (frz fresh Γ.H n) cs = some ts → All2 (RL Γ) cs vs → (∀ (j : Nat) (x : AV), cs[j]? = some x → live x = true → ∀ c ch, hget Γ.H c = some ch → Fx (Γ.blk c)) → All2 (RT Fx Γ.w) ts vs := by
      intro cs ts vs h1 h2 h3
      obtain ⟨k1, k2⟩ := mapO_some h1
      refine ⟨by rw [← k1]; exact h2.1, fun j b x hb hx => ?_⟩
      obtain ⟨y, hy, hyb⟩ := k2 j b hb
      exact ih hyb (h2.2 j y x hy hx) (h3 j y hy)
    cases a with
    | v x =>
      have := hr.v_inv; subst this
      simp only [frz] at h
      have : t = .v v := by
        split at h <;> first | (cases fresh <;> simp at h <;> exact h.symm) | (simp at h; exact h.symm)
      subst this
      exact .v _
    | eptr cells =>
      simp only [frz] at h
      cases fresh with
      | true => simp at h
      | false => simp at h; exact stay hr.eptr_inv rfl h
    | fsl len cells =>
      simp only [frz] at h
      cases fresh with
      | true => simp at h
      | false => simp at h; exact stay hr.fsl_inv rfl h
    | ptr c off =>
      simp only [frz] at h
      cases hg : hget Γ.H c with
      | none => simp [hg] at h
      | some ch =>
        simp only [hg] at h
        obtain ⟨ts, hts, rfl⟩ := Option.map_eq_some_iff.1 h
        obtain ⟨b, rfl, hU, hb⟩ := hr.ptr_inv
        have hbk := hb ch hg
        subst hbk
        obtain ⟨arr, h1, h2, h3, h4⟩ := hR.arr hg
        have hall := many hts (h4.drop off) (fun j x _ _ => hL rfl)
        refine .eptr (Γ.blk c) off ts (fun j => (arr[off + j]?).getD undef) (hL rfl c ch hg) ?_ ?_
        · intro j x hx
          obtain ⟨y, hy, _⟩ := hall.get hx
          rw [List.getElem?_drop, List.getElem?_take] at hy
          split at hy
          · have hy' : arr[off + j]? = some y := by simpa using hy
            rw [cell_of_arr h1, hy']; rfl
          · simp at hy
        · intro j x hx
          obtain ⟨y, hy, hxy⟩ := hall.get hx
          rw [List.getElem?_drop, List.getElem?_take] at hy
          split at hy
          · have hy' : arr[off + j]? = some y := by simpa using hy
            simp only [hy', Option.getD_some]; exact hxy
          · simp at hy
    | osl c off len esz lb =>
      simp only [frz] at h
      cases hg : hget Γ.H c with
      | none => simp [hg] at h
      | some ch =>
        simp only [hg] at h
        cases hle : Nat.ble (off + len * esz) ch.cells.length with
        | false => simp [hle] at h
        | true =>
          simp only [hle, cond_true] at h
          have hle' := Nat.le_of_ble_eq_true hle
          obtain ⟨ts, hts, rfl⟩ := Option.map_eq_some_iff.1 h
          obtain ⟨b, off', cap, rfl, hU, ho, hl, hlb, hb⟩ := hr.osl_inv
          obtain ⟨hbk, _⟩ := hb ch hg
          subst hbk
          obtain ⟨arr, h1, h2, h3, h4⟩ := hR.arr hg
          have hall := many hts ((h4.drop off).take (len * esz)) (fun j x _ _ => hL rfl)
          by_cases hl0 : len = 0
          · subst hl0
            have : ts = [] := by have := hall.1; simpa using this
            subst this
            exact .fnil _ cap
          have : off' = off := by rcases ho with h | h <;> omega
          subst this
          refine .fsl (Γ.blk c) off' len cap ts (fun j => (arr[off' + j]?).getD undef) (hL rfl c ch hg) hl ?_ ?_
          · intro j x hx
            obtain ⟨y, hy, _⟩ := hall.get hx
            rw [List.getElem?_take] at hy
            split at hy
            · rw [List.getElem?_drop, List.getElem?_take] at hy
              split at hy
              · have hy' : arr[off' + j]? = some y := by simpa using hy
                rw [cell_of_arr h1, hy']; rfl
              · simp at hy
            · simp at hy
          · intro j x hx
            obtain ⟨y, hy, hxy⟩ := hall.get hx
            rw [List.getElem?_take] at hy
            split at hy
            · rw [List.getElem?_drop, List.getElem?_take] at hy
              split at hy
              · have hy' : arr[off' + j]? = some y := by simpa using hy
                simp only [hy', Option.getD_some]; exact hxy
              · simp at hy
            · simp at hy
    | fn g caps =>
      simp only [frz] at h
      obtain ⟨ts, hts, rfl⟩ := Option.map_eq_some_iff.1 h
      obtain ⟨vs, rfl, l1, g1⟩ := hr.fn_inv
      have hall := many hts (All2.of_arr l1 g1) (fun j x hx hlx => by
        cases hl : live (.fn g caps) with
        | true => exact hL hl
        | false => simp only [live] at hl; rw [liveL_get hl hx] at hlx; simp at hlx)
      exact .fn g ts vs (by have := hall.1; simpa using this) (fun j a x h1 h2 => hall.2 j a x h1 (by simpa using h2))
    | agg cs =>
      simp only [frz] at h
      obtain ⟨ts, hts, rfl⟩ := Option.map_eq_some_iff.1 h
      obtain ⟨vs, rfl, l1, g1⟩ := hr.agg_inv
      have hall := many hts (All2.of_arr l1 g1) (fun j x hx hlx => by
        cases hl : live (.agg cs) with
        | true => exact hL hl
        | false => simp only [live] at hl; rw [liveL_get hl hx] at hlx; simp at hlx)
      exact .agg ts vs (by have := hall.1; simpa using this) (fun j a x h1 h2 => hall.2 j a x h1 (by simpa using h2))
    | tup cs =>
      simp only [frz] at h
      obtain ⟨ts, hts, rfl⟩ := Option.map_eq_some_iff.1 h
      obtain ⟨vs, rfl, l1, g1⟩ := hr.tup_inv
      have hall := many hts (All2.of_arr l1 g1) (fun j x hx hlx => by
        cases hl : live (.tup cs) with
        | true => exact hL hl
        | false => simp only [live] at hl; rw [liveL_get hl hx] at hlx; simp at hlx)
      exact .tup ts vs (by have := hall.1; simpa using this) (fun j a x h1 h2 => hall.2 j a x h1 (by simpa using h2))

/-- What a call comes to. -/
structure Back (Γ : Ctx) (id nx nx' : Nat) (r : AV) (H' : Heap) (v : Value) (Γ' : Ctx) : Prop where
  H : Γ'.H = H'
  ev : Ev Γ Γ'
  ok : HRel Γ'
  rl : RL Γ' r v
  U : ∀ c, Γ'.U c → Γ.U c ∨ c = id ∨ nx ≤ c
  lt : ∀ c, Γ'.U c → c = id ∨ c < nx'
  nx : nx ≤ nx'

def Ret (P : Program) (g : Nat) (vs : Array Value) (Γ : Ctx) (id nx nx' : Nat) (r : AV) (H' : Heap) : Prop :=
  Calls P g vs Γ.w fun e w' => ∃ v Γ', e = .returned v ∧ Γ'.w = w' ∧ Back Γ id nx nx' r H' v Γ'

/-- A function's body does what the interpreter says. -/
def RunOK (P : Program) (g : Nat) (f : AFun) (ex : Exec) : Prop :=
  ∀ (args : List AV) (H : Heap) (nx : Nat) (r : AV) (H' : Heap) (nx' : Nat), runF ex f args H nx = some (r, H', nx') → ∀ (Γ : Ctx) (vs : Array Value), Γ.H = H → HRel Γ → (∀ c, Γ.U c → c < nx) →
    All2 (RL Γ) args vs.toList → ∀ id, Ret P g vs Γ id nx nx' r H'

theorem hget_nil (c : Nat) : hget [] c = none := rfl

/-- A call whose memory is its own. -/
theorem own_ok {P : Program} {g : Nat} {f : AFun} {ex : Exec} (hrun : RunOK P g f ex) {Γ : Ctx} (hR : HRel Γ) {nx : Nat} (hU : ∀ c, Γ.U c → c < nx) {args args' : List AV} {vs : Array Value} (hargs : All2 (RL Γ) args vs.toList)
    (hv : mapO (frz false Γ.H depthA) args = some args') {r r' : AV} {H2 : Heap} {n2 : Nat} (h : runF ex f args' [] 0 = some (r, H2, n2)) (hr : frz (live.liveL args) H2 depthA r = some r') (id : Nat) :
    Ret P g vs Γ id nx nx r' Γ.H := by
  let F2 : Nat → Prop := fun b => bif live.liveL args then b < Γ.w.heap.size else Γ.F b
  let Γc : Ctx := { H := [], U := fun _ => False, blk := fun _ => 0, siz := fun _ => 0, F := F2, w := Γ.w }
  have hF2 : ∀ b, Γ.F b → F2 b := by
    intro b hb
    simp only [F2]
    cases live.liveL args
    · exact hb
    · exact hR.bnd b hb
  have hbnd : ∀ b, F2 b → b < Γ.w.heap.size := by
    intro b hb
    simp only [F2] at hb
    cases hl : live.liveL args <;> simp [hl] at hb
    · exact hR.bnd b hb
    · exact hb
  have hRc : HRel Γc := ⟨fun c ch h => by simp [Γc, hget] at h, fun c c' ch ch' h => by simp [Γc, hget] at h, fun c ch h => by simp [Γc, hget] at h, hbnd⟩
  have hargs' : All2 (RL Γc) args' vs.toList := by
    obtain ⟨k1, k2⟩ := mapO_some hv
    refine ⟨by rw [← k1]; exact hargs.1, fun j b x hb hx => ?_⟩
    obtain ⟨y, hy, hyb⟩ := k2 j b hb
    refine .tree (frz_ok hR (Fx := F2) (fun _ => hF2) depthA hyb (hargs.2 j y x hy hx) fun hl c ch hc => ?_)
    have : live.liveL args = true := by
      cases hll : live.liveL args with
      | true => rfl
      | false => rw [liveL_get hll hy] at hl; simp at hl
    simp only [F2, this, cond_true]
    obtain ⟨_, arr, h1, _⟩ := hR.ok c ch hc
    exact heap_lt h1
  have := hrun args' [] 0 r H2 n2 h Γc vs rfl hRc (fun c hc => hc.elim) hargs' 0
  refine this.mono ?_
  rintro e w' ⟨v, Γ', rfl, rfl, hb⟩
  obtain ⟨bH, bev, bok, brl, _, _, _⟩ := hb
  -- the blocks that the call made
  let F3 : Nat → Prop := fun b => Γ.w.heap.size ≤ b ∧ b < Γ'.w.heap.size
  have hold : ∀ b, b < Γ.w.heap.size → Γ'.w.heap[b]? = Γ.w.heap[b]? ∧ Γ'.free b := fun b hb => bev.frame b hb (fun c ch h => by simp [Γc, hget] at h)
  obtain ⟨e1, e2⟩ := ev_frozen hR Γ'.w F3 (fun b hb => hb) bev.size (fun b hb => (hold b hb).1) bev.os bev.tape bev.output
  refine ⟨v, { Γ with w := Γ'.w, F := fun b => Γ.F b ∨ F3 b }, rfl, rfl, ⟨rfl, e1, e2, ?_, fun c hc => .inl hc, fun c hc => .inr (hU c hc), Nat.le_refl _⟩⟩
  refine .tree ?_
  have hr' : frz (live.liveL args) Γ'.H depthA r = some r' := by rw [bH]; exact hr
  refine frz_ok bok (Fx := fun b => Γ.F b ∨ F3 b) (fun hfr b hb => ?_) depthA hr' brl (fun _ c ch hc => ?_)
  · rcases bev.Fnew b hb with hb' | hb'
    · have : F2 b := hb'
      simp only [F2, hfr, cond_false] at this
      exact .inl this
    · exact .inr ⟨hb', bok.bnd b hb⟩
  · obtain ⟨_, arr, h1, _⟩ := bok.ok c ch hc
    refine .inr ⟨?_, heap_lt h1⟩
    rcases Nat.lt_or_ge (Γ'.blk c) Γ.w.heap.size with hlt | hge
    · exact absurd rfl ((hold _ hlt).2 c ch hc)
    · exact hge

theorem RL.reH {Γ : Ctx} {a : AV} {v : Value} (h : RL Γ a v) (H' : Heap) : RL { Γ with H := H' } a v := by
  induction h with
  | tree h => exact .tree h
  | ptr c off b hU h => exact .ptr c off b hU h
  | osl c off len esz lb b off' cap hU h1 h2 h3 h => exact .osl c off len esz lb b off' cap hU h1 h2 h3 h
  | fn g caps vs hl hr ih => exact .fn g caps vs hl ih
  | agg cs vs hl hr ih => exact .agg cs vs hl ih
  | tup cs vs hl hr ih => exact .tup cs vs hl ih

/-- A call in the part of the memory that its arguments lead to. -/
theorem in_ok {P : Program} {g : Nat} {f : AFun} {ex : Exec} (hrun : RunOK P g f ex) {Γ : Ctx} (hR : HRel Γ) {nx : Nat} (hU : ∀ c, Γ.U c → c < nx) {args : List AV} {vs : Array Value} (hargs : All2 (RL Γ) args vs.toList)
    (ids : List Nat) {r : AV} {H2 : Heap} {nx' : Nat} (h : runF ex f args (hpart true ids Γ.H) nx = some (r, H2, nx')) (id : Nat) :
    Ret P g vs Γ id nx nx' r (H2 ++ hpart false ids Γ.H) := by
  let Γc : Ctx := { Γ with H := hpart true ids Γ.H }
  have hsub : ∀ c ch, hget Γc.H c = some ch → memN c ids = true ∧ hget Γ.H c = some ch := by
    intro c ch hc
    simp only [Γc, hget_hpart] at hc
    split at hc
    · rename_i hm; exact ⟨hm, hc⟩
    · simp at hc
  have hRc : HRel Γc := by
    refine ⟨fun c ch hc => ?_, fun c c' ch ch' h1 h2 he => hR.inj c c' ch ch' (hsub c ch h1).2 (hsub c' ch' h2).2 he, fun c ch hc => hR.sep c ch (hsub c ch hc).2, hR.bnd⟩
    obtain ⟨h1, arr, h2, h3, h4, h5⟩ := hR.ok c ch (hsub c ch hc).2
    exact ⟨h1, arr, h2, h3, h4, fun j a x ha hx => (h5 j a x ha hx).reH _⟩
  have := hrun args _ nx r H2 nx' h Γc vs rfl hRc hU (hargs.imp fun a x hx => hx.reH _) id
  refine this.mono ?_
  rintro e w' ⟨v, Γ', rfl, rfl, hb⟩
  obtain ⟨bH, bev, bok, brl, bU, blt, bnx⟩ := hb
  have hid : ∀ c ch, hget (hpart false ids Γ.H) c = some ch → memN c ids = false ∧ hget Γ.H c = some ch := by
    intro c ch hc
    rw [hget_hpart] at hc
    split at hc
    · rename_i hm; exact ⟨hm, hc⟩
    · simp at hc
  -- a hidden chunk's block is none of the callee's
  have hfree : ∀ c ch, hget (hpart false ids Γ.H) c = some ch → Γ.blk c < Γ.w.heap.size ∧ Γc.free (Γ.blk c) := by
    intro c ch hc
    obtain ⟨hm, hg⟩ := hid c ch hc
    obtain ⟨_, arr, h1, _⟩ := hR.ok c ch hg
    refine ⟨heap_lt h1, fun c' ch' hc' he => ?_⟩
    obtain ⟨hm', hg'⟩ := hsub c' ch' hc'
    have := hR.inj c' c ch' ch hg' hg he
    subst this
    rw [hm] at hm'; simp at hm'
  have hgm : ∀ c ch, hget (Γ'.H ++ hpart false ids Γ.H) c = some ch → hget Γ'.H c = some ch ∨ hget (hpart false ids Γ.H) c = some ch := by
    intro c ch hc
    rw [hget_append] at hc
    cases hg : hget Γ'.H c with
    | none => rw [hg] at hc; exact .inr hc
    | some x => rw [hg] at hc; exact .inl hc
  have hUof : ∀ c ch, hget (hpart false ids Γ.H) c = some ch → Γ.U c := fun c ch hc => (hR.ok c ch (hid c ch hc).2).1
  refine ⟨v, { Γ' with H := Γ'.H ++ hpart false ids Γ.H }, rfl, rfl, ⟨by rw [← bH], ?_, ?_, brl.reH _, bU, blt, bnx⟩⟩
  · refine ⟨bev.U, ?_, bev.F, bev.Fnew, bev.size, ?_, bev.os, bev.tape, bev.output, bev.same⟩
    · intro c ch' hUc hc
      rcases hgm c ch' hc with hc | hc
      · obtain ⟨ch, h1, h2, h3⟩ := bev.keep c ch' hUc hc
        exact ⟨ch, (hsub c ch h1).2, h2, h3⟩
      · exact ⟨ch', (hid c ch' hc).2, bev.same c hUc⟩
    · intro b hb hf
      obtain ⟨k1, k2⟩ := bev.frame b hb (fun c ch hc => hf c ch (hsub c ch hc).2)
      refine ⟨k1, fun c ch hc => ?_⟩
      rcases hgm c ch hc with hc | hc
      · exact k2 c ch hc
      · show Γ'.blk c ≠ b
        rw [(bev.same c (hUof c ch hc)).1]
        exact hf c ch (hid c ch hc).2
  · refine ⟨fun c ch hc => ?_, fun c c' ch ch' hc hc' he => ?_, fun c ch hc hF => ?_, bok.bnd⟩
    · rcases hgm c ch hc with hc | hc
      · obtain ⟨h1, arr, h2, h3, h4, h5⟩ := bok.ok c ch hc
        exact ⟨h1, arr, h2, h3, h4, fun j a x ha hx => (h5 j a x ha hx).reH _⟩
      · obtain ⟨h1, arr, h2, h3, h4, h5⟩ := hR.ok c ch (hid c ch hc).2
        obtain ⟨k1, k2⟩ := hfree c ch hc
        refine ⟨bev.U c h1, arr, ?_, h3.trans (bev.same c h1).2.symm, h4, fun j a x ha hx => (((h5 j a x ha hx).reH _).ev hRc bev).reH _⟩
        show Γ'.w.heap[Γ'.blk c]? = _
        rw [(bev.same c h1).1]
        exact (bev.frame _ k1 k2).1.trans h2
    · have he : Γ'.blk c = Γ'.blk c' := he
      rcases hgm c ch hc with hc | hc <;> rcases hgm c' ch' hc' with hc' | hc'
      · exact bok.inj c c' ch ch' hc hc' he
      · rw [(bev.same c' (hUof c' ch' hc')).1] at he
        obtain ⟨k1, k2⟩ := hfree c' ch' hc'
        exact absurd he ((bev.frame _ k1 k2).2 c ch hc)
      · rw [(bev.same c (hUof c ch hc)).1] at he
        obtain ⟨k1, k2⟩ := hfree c ch hc
        exact absurd he.symm ((bev.frame _ k1 k2).2 c' ch' hc')
      · rw [(bev.same c (hUof c ch hc)).1, (bev.same c' (hUof c' ch' hc')).1] at he
        exact hR.inj c c' ch ch' (hid c ch hc).2 (hid c' ch' hc').2 he
    · rcases hgm c ch hc with hc | hc
      · exact bok.sep c ch hc hF
      · have hF : Γ'.F (Γ'.blk c) := hF
        rw [(bev.same c (hUof c ch hc)).1] at hF
        rcases bev.Fnew _ hF with hF | hF
        · exact hR.sep c ch (hid c ch hc).2 hF
        · have := (hfree c ch hc).1
          have : Γ.w.heap.size ≤ Γ.blk c := hF
          omega

end Go.Am
