import Derived.Test.YtgkokjkoifdbnaaGreatDraw1
import Derived.Test.YtgkokjkoifdbnaaGreatStep
/- Regions whose order is open: the run in the text's order as a row of writes. -/
namespace Go.Am
set_option autoImplicit false
set_option linter.unusedSimpArgs false
set_option linter.unusedVariables false

def sg (s : St) : Sg
  | .t n => .a (tget s.tm n)
  | .c c => .h (hget s.H c)
  | .x => .n s.nx

/-- What one operation sets. -/
def wOf (T : Table) (L : Nat → Bool) (o : AOper) (d : DR) : Wr
  | .t n => if o.dst = some n ∧ L n = true then some (.a d.r) else none
  | .c c => if memN c d.wr = true ∨ (hget d.H2 c).isSome then some (.h (hget d.H2 c)) else none
  | .x => if o.op.numbers T = true then some (.n d.nx) else none

theorem dopA_nx {T : Table} {ex : Exec} {id : Nat} {o : AOper} {s : St} {d : DR} (h : dopA T ex id o s = some d) (hn : o.op.numbers T = false) : d.nx = s.nx := by
  unfold dopA at h
  cases hg : goes s.tm o with
  | false => simp only [hg, cond_false, Option.some.injEq] at h; rw [← h]
  | true =>
    simp only [hg, cond_true] at h
    split at h
    · simp at h
    · simp only [Option.some.injEq] at h
      rw [← h]; cases o.op.makes T <;> rfl
    · split at h
      · simp at h
      · simp only [Option.some.injEq] at h
        rw [← h]; cases o.op.makes T <;> simp [hn]

theorem sg_dput {T : Table} {L : Nat → Bool} {o : AOper} {s : St} {d : DR} (hL : thas s.tm = L) (hn : o.op.numbers T = false → d.nx = s.nx) : sg (dput s o.dst d) = (wOf T L o d).ap (sg s) := by
  funext l
  cases l with
  | t n =>
    simp only [sg, dput, Wr.ap, wOf]
    cases hd : o.dst with
    | none => simp
    | some k =>
      simp only [tget_tset, Option.some.injEq, hL]
      by_cases hk : n = k
      · subst hk; cases L n <;> simp
      · simp [hk, Ne.symm hk]
  | c c =>
    simp only [sg, dput, Wr.ap, wOf, hget_append, hget_hout]
    cases hc : hget d.H2 c with
    | some ch => simp
    | none => cases hm : memN c d.wr <;> simp
  | x =>
    simp only [sg, dput, Wr.ap, wOf]
    cases hx : o.op.numbers T with
    | true => simp
    | false => simp [hn hx]

def wsOf (T : Table) (L : Nat → Bool) : List AOper → List DR → List Wr
  | o :: os, d :: ds => wOf T L o d :: wsOf T L os ds
  | _, _ => []
theorem wsOf_get {T : Table} {L : Nat → Bool} : ∀ {os : List AOper} {ds : List DR} {j : Nat} {w : Wr}, (wsOf T L os ds)[j]? = some w → ∃ o d, os[j]? = some o ∧ ds[j]? = some d ∧ w = wOf T L o d
  | [], ds, j, w, h => by simp [wsOf] at h
  | o :: os, [], j, w, h => by simp [wsOf] at h
  | o :: os, d :: ds, 0, w, h => by simp [wsOf] at h; exact ⟨o, d, rfl, rfl, h.symm⟩
  | o :: os, d :: ds, j + 1, w, h => by
    simp only [wsOf, List.getElem?_cons_succ] at h
    obtain ⟨o', d', h1, h2, h3⟩ := wsOf_get h
    exact ⟨o', d', by simpa using h1, by simpa using h2, h3⟩
theorem wsOf_some {T : Table} {L : Nat → Bool} : ∀ {os : List AOper} {ds : List DR} {j : Nat} {o : AOper} {d : DR}, os[j]? = some o → ds[j]? = some d → (wsOf T L os ds)[j]? = some (wOf T L o d)
  | [], ds, j, o, d, h, _ => by simp at h
  | o' :: os, [], j, o, d, _, h => by simp at h
  | o' :: os, d' :: ds, 0, o, d, h, k => by simp at h k; subst h; subst k; rfl
  | o' :: os, d' :: ds, j + 1, o, d, h, k => by simp only [wsOf, List.getElem?_cons_succ]; exact wsOf_some (by simpa using h) (by simpa using k)

theorem dreg_trace {T : Table} {ex : Exec} {base : Nat} {L : Nat → Bool} : ∀ {os : List AOper} {k : Nat} {s s' : St} {ds : List DR}, dregOps T ex base os k s = some (ds, s') → thas s.tm = L →
    thas s'.tm = L ∧ sg s' = foldW (fun _ => true) (wsOf T L os ds) k (sg s) ∧ ds.length = os.length ∧
    ∀ i o, os[i]? = some o → ∃ si d, ds[i]? = some d ∧ dopA T ex (base + (k + i)) o si = some d ∧ thas si.tm = L ∧ sg si = foldW (fun j => decide (j < k + i)) (wsOf T L os ds) k (sg s)
  | [], k, s, s', ds, h, hL => by
    simp only [dregOps, Option.some.injEq, Prod.mk.injEq] at h
    obtain ⟨rfl, rfl⟩ := h
    exact ⟨hL, rfl, rfl, fun i o h => by simp at h⟩
  | o :: os, k, s, s', ds, h, hL => by
    simp only [dregOps] at h
    cases hd : dopA T ex (base + k) o s with
    | none => simp [hd] at h
    | some d =>
      simp only [hd] at h
      cases hr : dregOps T ex base os (k + 1) (dput s o.dst d) with
      | none => simp [hr] at h
      | some p =>
        obtain ⟨ds', s2⟩ := p
        simp only [hr, Option.some.injEq, Prod.mk.injEq] at h
        obtain ⟨rfl, rfl⟩ := h
        have hL' : thas (dput s o.dst d).tm = L := by
          simp only [dput]; cases o.dst <;> simp [thas_tset, hL]
        have hsg := sg_dput (T := T) (o := o) (d := d) hL (dopA_nx hd)
        obtain ⟨t1, t2, t3, t4⟩ := dreg_trace hr hL'
        refine ⟨t1, ?_, by simp [t3], fun i o' ho => ?_⟩
        · rw [t2, hsg]; rfl
        · cases i with
          | zero =>
            simp only [List.getElem?_cons_zero, Option.some.injEq] at ho
            subst ho
            refine ⟨s, d, rfl, by simpa using hd, hL, ?_⟩
            rw [foldW_none _ (fun j hj => by simp; omega)]
          | succ i =>
            obtain ⟨si, d', h1, h2, h3, h4⟩ := t4 i o' (by simpa using ho)
            refine ⟨si, d', by simpa using h1, by rw [show k + (i + 1) = k + 1 + i by omega]; exact h2, h3, ?_⟩
            rw [h4, hsg]
            simp only [wsOf, foldW]
            have : decide (k < k + (i + 1)) = true := by simp
            rw [this, cond_true]
            congr 1
            funext j
            congr 1
            apply propext
            omega

/-! ### Who may not meet -/
theorem memN_iff {c : Nat} {l : List Nat} : memN c l = true ↔ c ∈ l := by
  induction l with
  | nil => simp [memN]
  | cons k r ih =>
    simp only [memN, List.mem_cons]
    by_cases hk : k = c
    · subst hk; simp
    · have : Nat.beq k c = false := nbeq_false hk
      simp [this, ih, Ne.symm hk]
theorem keysA_mem {H : Heap} {c : Nat} (h : (hget H c).isSome = true) : c ∈ keysA H := by
  induction H with
  | nil => simp [hget] at h
  | cons p r ih =>
    obtain ⟨k, ch⟩ := p
    simp only [hget_cons] at h
    simp only [keysA, List.mem_cons]
    split at h
    · rename_i e; exact .inl e.symm
    · exact .inr (ih h)
theorem apartN_iff {a b : List Nat} (h : apartN a b = true) : ∀ c ∈ a, c ∉ b := by
  induction a with
  | nil => intro c hc; simp at hc
  | cons x r ih =>
    simp only [apartN, Bool.and_eq_true, Bool.not_eq_true'] at h
    intro c hc
    rcases List.mem_cons.1 hc with rfl | hc
    · intro hb
      have := memN_iff.2 hb
      rw [h.1] at this; simp at this
    · exact ih h.2 c hc
theorem wOf_chunk {T : Table} {L : Nat → Bool} {o : AOper} {d : DR} {c : Nat} (h : wOf T L o d (.c c) ≠ none) : c ∈ d.dm := by
  simp only [wOf] at h
  split at h
  · rename_i hc
    simp only [DR.dm, List.mem_append]
    rcases hc with hc | hc
    · exact .inl (memN_iff.1 hc)
    · exact .inr (keysA_mem hc)
  · simp at h
theorem apartD_iff {x y : DR} (h : apartD x y = true) : (∀ c ∈ x.rd, c ∉ y.dm) ∧ (∀ c ∈ x.dm, c ∉ y.rd) ∧ (∀ c ∈ x.dm, c ∉ y.dm) := by
  simp only [apartD, Bool.and_eq_true] at h
  exact ⟨apartN_iff h.1.1, apartN_iff h.1.2, apartN_iff h.2⟩
theorem getD_get {ds : List DR} {i : Nat} {d : DR} (h : ds[i]? = some d) : getD ds i = d := by
  induction ds generalizing i with
  | nil => simp at h
  | cons x r ih =>
    cases i with
    | zero => simpa [getD] using h
    | succ i => simpa [getD] using ih (by simpa using h)
theorem chkU_iff {ds : List DR} {d : DR} {l : List Nat} (h : chkU ds d l = true) : ∀ k ∈ l, ∀ x, ds[k]? = some x → apartD x d = true := by
  induction l with
  | nil => intro k hk; simp at hk
  | cons y r ih =>
    simp only [chkU, Bool.and_eq_true] at h
    intro k hk x hx
    rcases List.mem_cons.1 hk with rfl | hk
    · rw [getD_get hx] at h; exact h.1
    · exact ih h.2 k hk x hx
theorem chkD_iff {all : List DR} : ∀ {os : List AOper} {ds : List DR}, chkD all os ds = true → ∀ (i : Nat) (o : AOper) (d : DR), os[i]? = some o → ds[i]? = some d → ∀ k ∈ o.un, ∀ x, all[k]? = some x → apartD x d = true
  | [], ds, h, i, o, d, ho, _ => by simp at ho
  | o' :: os, [], h, i, o, d, _, hd => by simp at hd
  | o' :: os, d' :: ds, h, i, o, d, ho, hd => by
    simp only [chkD, Bool.and_eq_true] at h
    cases i with
    | zero => simp at ho hd; subst ho; subst hd; exact chkU_iff h.1
    | succ i => exact chkD_iff h.2 i o d (by simpa using ho) (by simpa using hd)

/-- What an operation that neither looks nor makes comes to. -/
theorem dopA_rd {T : Table} {ex : Exec} {id : Nat} {o : AOper} {s : St} {d : DR} (h : dopA T ex id o s = some d) : (o.op.looks = false → d.rd = []) ∧ (o.op.makes T = false → d.dm = []) := by
  have ht : o.op.looks = false → touchA s.tm s.H o.op = [] := by
    intro hl
    cases hop : o.op <;> simp [hop, AOp.looks] at hl <;> rfl
  unfold dopA at h
  cases hg : goes s.tm o with
  | false => simp only [hg, cond_false, Option.some.injEq] at h; subst h; exact ⟨fun _ => rfl, fun _ => rfl⟩
  | true =>
    simp only [hg, cond_true] at h
    split at h
    · simp at h
    · simp only [Option.some.injEq] at h
      subst h
      cases hm : o.op.makes T
      · exact ⟨fun hl => by simpa using ht hl, fun _ => rfl⟩
      · exact ⟨fun hl => by simpa using ht hl, fun h => by simp at h⟩
    · split at h
      · simp at h
      · simp only [Option.some.injEq] at h
        subst h
        cases hm : o.op.makes T
        · exact ⟨fun hl => by simpa using ht hl, fun _ => rfl⟩
        · exact ⟨fun hl => by simpa using ht hl, fun h => by simp at h⟩

end Go.Am
