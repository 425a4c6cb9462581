import Derived.Test.YtgkokjkoifdbnaaGreatAm0
import Derived.Laws.CopyRow
import Derived.Laws.IdiomCopy
import Derived.Laws.AppendOwn
/- What a value of the interpreter is in the machine's memory. -/
namespace Go.Am
set_option autoImplicit false

/-- A tree, in memory that stays (F). -/
inductive RT (F : Nat → Prop) (w : World) : AV → Value → Prop
  | v (x : Value) : RT F w (.v x) x
  | eptr (b off : Nat) (cells : List AV) (f : Nat → Value) (hF : F b)
      (hc : ∀ (j : Nat) (a : AV), cells[j]? = some a → w.cell? ⟨b, off + j, none⟩ = some (f j))
      (hr : ∀ (j : Nat) (a : AV), cells[j]? = some a → RT F w a (f j)) : RT F w (.eptr cells) (.pointer (some ⟨b, off, none⟩))
  | fnil (a : Addr) (cap : Nat) : RT F w (.fsl 0 []) (.slice (some a) 0 cap)
  | fsl (b off len cap : Nat) (cells : List AV) (f : Nat → Value) (hF : F b) (hl : len ≤ cap)
      (hc : ∀ (j : Nat) (a : AV), cells[j]? = some a → w.cell? ⟨b, off + j, none⟩ = some (f j))
      (hr : ∀ (j : Nat) (a : AV), cells[j]? = some a → RT F w a (f j)) : RT F w (.fsl len cells) (.slice (some ⟨b, off, none⟩) len cap)
  | fn (g : Nat) (caps : List AV) (vs : Array Value) (hl : caps.length = vs.size)
      (hr : ∀ (j : Nat) (a : AV) (x : Value), caps[j]? = some a → vs[j]? = some x → RT F w a x) : RT F w (.fn g caps) (.func (.func g) #[] vs)
  | agg (cs : List AV) (vs : Array Value) (hl : cs.length = vs.size)
      (hr : ∀ (j : Nat) (a : AV) (x : Value), cs[j]? = some a → vs[j]? = some x → RT F w a x) : RT F w (.agg cs) (.agg vs)
  | tup (cs : List AV) (vs : Array Value) (hl : cs.length = vs.size)
      (hr : ∀ (j : Nat) (a : AV) (x : Value), cs[j]? = some a → vs[j]? = some x → RT F w a x) : RT F w (.tup cs) (.tuple vs)

structure Ctx where
  H : Heap
  U : Nat → Prop        -- the numbers that have been given out
  blk : Nat → Nat
  siz : Nat → Nat
  F : Nat → Prop
  w : World

inductive RL (Γ : Ctx) : AV → Value → Prop
  | tree {a : AV} {v : Value} (h : RT Γ.F Γ.w a v) : RL Γ a v
  | ptr (c off b : Nat) (hU : Γ.U c) (h : b = Γ.blk c) : RL Γ (.ptr c off) (.pointer (some ⟨b, off, none⟩))
  | osl (c off len esz lb b off' cap : Nat) (hU : Γ.U c) (h1 : cap = 0 ∨ off' = off) (h2 : len ≤ cap) (h3 : lb ≤ cap)
      (h : b = Γ.blk c ∧ off + cap * esz ≤ Γ.siz c) : RL Γ (.osl c off len esz lb) (.slice (some ⟨b, off', none⟩) len cap)
  | fn (g : Nat) (caps : List AV) (vs : Array Value) (hl : caps.length = vs.size)
      (hr : ∀ (j : Nat) (a : AV) (x : Value), caps[j]? = some a → vs[j]? = some x → RL Γ a x) : RL Γ (.fn g caps) (.func (.func g) #[] vs)
  | agg (cs : List AV) (vs : Array Value) (hl : cs.length = vs.size)
      (hr : ∀ (j : Nat) (a : AV) (x : Value), cs[j]? = some a → vs[j]? = some x → RL Γ a x) : RL Γ (.agg cs) (.agg vs)
  | tup (cs : List AV) (vs : Array Value) (hl : cs.length = vs.size)
      (hr : ∀ (j : Nat) (a : AV) (x : Value), cs[j]? = some a → vs[j]? = some x → RL Γ a x) : RL Γ (.tup cs) (.tuple vs)

/-- Two lists, one by one. -/
def All2 (R : AV → Value → Prop) (xs : List AV) (vs : List Value) : Prop :=
  xs.length = vs.length ∧ ∀ (j : Nat) (a : AV) (x : Value), xs[j]? = some a → vs[j]? = some x → R a x

structure HRel (Γ : Ctx) : Prop where
  ok : ∀ c ch, hget Γ.H c = some ch → Γ.U c ∧ ∃ arr, Γ.w.heap[Γ.blk c]? = some (.cells arr ch.ty (0, 0)) ∧ arr.size = Γ.siz c ∧ ch.cells.length ≤ arr.size ∧
    ∀ (j : Nat) (a : AV) (x : Value), ch.cells[j]? = some a → arr[j]? = some x → RL Γ a x
  inj : ∀ c c' ch ch', hget Γ.H c = some ch → hget Γ.H c' = some ch' → Γ.blk c = Γ.blk c' → c = c'
  sep : ∀ c ch, hget Γ.H c = some ch → ¬ Γ.F (Γ.blk c)
  bnd : ∀ b, Γ.F b → b < Γ.w.heap.size

/-- A block that is none of the chunks'. -/
def Ctx.free (Γ : Ctx) (b : Nat) : Prop := ∀ c ch, hget Γ.H c = some ch → Γ.blk c ≠ b

structure Ev (Γ Γ' : Ctx) : Prop where
  U : ∀ c, Γ.U c → Γ'.U c
  keep : ∀ c ch', Γ.U c → hget Γ'.H c = some ch' → ∃ ch, hget Γ.H c = some ch ∧ Γ'.blk c = Γ.blk c ∧ Γ'.siz c = Γ.siz c
  F : ∀ b, Γ.F b → Γ'.F b
  Fnew : ∀ b, Γ'.F b → Γ.F b ∨ Γ.w.heap.size ≤ b
  size : Γ.w.heap.size ≤ Γ'.w.heap.size
  frame : ∀ b, b < Γ.w.heap.size → Γ.free b → Γ'.w.heap[b]? = Γ.w.heap[b]? ∧ Γ'.free b
  os : Γ'.w.os = Γ.w.os
  tape : Γ'.w.tape = Γ.w.tape
  output : Γ'.w.output = Γ.w.output
  same : ∀ c, Γ.U c → Γ'.blk c = Γ.blk c ∧ Γ'.siz c = Γ.siz c

theorem Ev.refl (Γ : Ctx) : Ev Γ Γ :=
  ⟨fun _ h => h, fun _ ch _ h => ⟨ch, h, rfl, rfl⟩, fun _ h => h, fun _ h => .inl h, Nat.le_refl _, fun _ _ h => ⟨rfl, h⟩, rfl, rfl, rfl, fun _ _ => ⟨rfl, rfl⟩⟩

theorem Ev.trans {Γ Γ' Γ'' : Ctx} (h : Ev Γ Γ') (k : Ev Γ' Γ'') : Ev Γ Γ'' where
  U c hc := k.U c (h.U c hc)
  keep c ch' hc h' := by
    obtain ⟨ch1, h1, e1, e2⟩ := k.keep c ch' (h.U c hc) h'
    obtain ⟨ch2, h2, e3, e4⟩ := h.keep c ch1 hc h1
    exact ⟨ch2, h2, e1.trans e3, e2.trans e4⟩
  F b hb := k.F b (h.F b hb)
  Fnew b hb := by
    rcases k.Fnew b hb with hb | hb
    · exact h.Fnew b hb
    · exact .inr (Nat.le_trans h.size hb)
  size := Nat.le_trans h.size k.size
  frame b hb hf := by
    obtain ⟨e1, f1⟩ := h.frame b hb hf
    obtain ⟨e2, f2⟩ := k.frame b (Nat.lt_of_lt_of_le hb h.size) f1
    exact ⟨e2.trans e1, f2⟩
  os := k.os.trans h.os
  tape := k.tape.trans h.tape
  output := k.output.trans h.output
  same c hc := ⟨(k.same c (h.U c hc)).1.trans (h.same c hc).1, (k.same c (h.U c hc)).2.trans (h.same c hc).2⟩

theorem cell_eq {w w' : World} {b : Nat} (h : w'.heap[b]? = w.heap[b]?) (off : Nat) : w'.cell? ⟨b, off, none⟩ = w.cell? ⟨b, off, none⟩ := by
  simp only [World.cell?, h]

theorem RT.mono {F F' : Nat → Prop} {w w' : World} (hF : ∀ b, F b → F' b) (hw : ∀ b, F b → w'.heap[b]? = w.heap[b]?) {a : AV} {v : Value} (h : RT F w a v) : RT F' w' a v := by
  induction h with
  | v x => exact .v x
  | eptr b off cells f hFb hc hr ih => exact .eptr b off cells f (hF b hFb) (fun j a ha => (cell_eq (hw b hFb) _).trans (hc j a ha)) ih
  | fnil a cap => exact .fnil a cap
  | fsl b off len cap cells f hFb hl hc hr ih => exact .fsl b off len cap cells f (hF b hFb) hl (fun j a ha => (cell_eq (hw b hFb) _).trans (hc j a ha)) ih
  | fn g caps vs hl hr ih => exact .fn g caps vs hl ih
  | agg cs vs hl hr ih => exact .agg cs vs hl ih
  | tup cs vs hl hr ih => exact .tup cs vs hl ih

theorem HRel.same {Γ Γ' : Ctx} (hR : HRel Γ) (h : Ev Γ Γ') {b : Nat} (hb : Γ.F b) : Γ'.w.heap[b]? = Γ.w.heap[b]? :=
  (h.frame b (hR.bnd b hb) (fun c ch hc he => hR.sep c ch hc (he ▸ hb))).1

theorem RL.ev {Γ Γ' : Ctx} (hR : HRel Γ) (h : Ev Γ Γ') {a : AV} {v : Value} (hr : RL Γ a v) : RL Γ' a v := by
  induction hr with
  | tree ht => exact .tree (ht.mono h.F (fun b hb => hR.same h hb))
  | ptr c off b hU hv =>
    exact .ptr c off b (h.U c hU) (hv.trans (h.same c hU).1.symm)
  | osl c off len esz lb b off' cap hU h1 h2 h3 hv =>
    refine .osl c off len esz lb b off' cap (h.U c hU) h1 h2 h3 ?_
    rw [(h.same c hU).1, (h.same c hU).2]
    exact hv
  | fn g caps vs hl _ ih => exact .fn g caps vs hl ih
  | agg cs vs hl _ ih => exact .agg cs vs hl ih
  | tup cs vs hl _ ih => exact .tup cs vs hl ih

/-! ### Shapes -/
theorem RL.v_inv {Γ : Ctx} {x v : Value} (h : RL Γ (.v x) v) : v = x := by
  cases h with
  | tree h => cases h; rfl
theorem RL.v (Γ : Ctx) (x : Value) : RL Γ (.v x) x := .tree (.v x)
theorem RL.agg_inv {Γ : Ctx} {cs : List AV} {v : Value} (h : RL Γ (.agg cs) v) : ∃ vs : Array Value, v = .agg vs ∧ cs.length = vs.size ∧ ∀ (j : Nat) (a : AV) (x : Value), cs[j]? = some a → vs[j]? = some x → RL Γ a x := by
  cases h with
  | tree h => cases h with
    | agg _ vs hl hr => exact ⟨vs, rfl, hl, fun j a x h1 h2 => .tree (hr j a x h1 h2)⟩
  | agg _ vs hl hr => exact ⟨vs, rfl, hl, hr⟩
theorem RL.tup_inv {Γ : Ctx} {cs : List AV} {v : Value} (h : RL Γ (.tup cs) v) : ∃ vs : Array Value, v = .tuple vs ∧ cs.length = vs.size ∧ ∀ (j : Nat) (a : AV) (x : Value), cs[j]? = some a → vs[j]? = some x → RL Γ a x := by
  cases h with
  | tree h => cases h with
    | tup _ vs hl hr => exact ⟨vs, rfl, hl, fun j a x h1 h2 => .tree (hr j a x h1 h2)⟩
  | tup _ vs hl hr => exact ⟨vs, rfl, hl, hr⟩
theorem RL.fn_inv {Γ : Ctx} {g : Nat} {cs : List AV} {v : Value} (h : RL Γ (.fn g cs) v) : ∃ vs : Array Value, v = .func (.func g) #[] vs ∧ cs.length = vs.size ∧ ∀ (j : Nat) (a : AV) (x : Value), cs[j]? = some a → vs[j]? = some x → RL Γ a x := by
  cases h with
  | tree h => cases h with
    | fn _ _ vs hl hr => exact ⟨vs, rfl, hl, fun j a x h1 h2 => .tree (hr j a x h1 h2)⟩
  | fn _ _ vs hl hr => exact ⟨vs, rfl, hl, hr⟩
theorem RL.ptr_inv {Γ : Ctx} {c off : Nat} {v : Value} (h : RL Γ (.ptr c off) v) : ∃ b, v = .pointer (some ⟨b, off, none⟩) ∧ Γ.U c ∧ ∀ ch, hget Γ.H c = some ch → b = Γ.blk c := by
  cases h with
  | tree h => cases h
  | ptr _ _ b hU h => exact ⟨b, rfl, hU, fun _ _ => h⟩
theorem RL.ptr_inv' {Γ : Ctx} {c off : Nat} {v : Value} (h : RL Γ (.ptr c off) v) : ∃ b, v = .pointer (some ⟨b, off, none⟩) ∧ Γ.U c ∧ b = Γ.blk c := by
  cases h with
  | tree h => cases h
  | ptr _ _ b hU h => exact ⟨b, rfl, hU, h⟩
theorem RL.osl_inv {Γ : Ctx} {c off len esz lb : Nat} {v : Value} (h : RL Γ (.osl c off len esz lb) v) : ∃ b off' cap, v = .slice (some ⟨b, off', none⟩) len cap ∧ Γ.U c ∧ (cap = 0 ∨ off' = off) ∧ len ≤ cap ∧ lb ≤ cap ∧
    ∀ ch, hget Γ.H c = some ch → b = Γ.blk c ∧ off + cap * esz ≤ Γ.siz c := by
  cases h with
  | tree h => cases h
  | osl _ _ _ _ _ b off' cap hU h1 h2 h3 h => exact ⟨b, off', cap, rfl, hU, h1, h2, h3, fun _ _ => h⟩
theorem RL.osl_inv' {Γ : Ctx} {c off len esz lb : Nat} {v : Value} (h : RL Γ (.osl c off len esz lb) v) : ∃ b off' cap, v = .slice (some ⟨b, off', none⟩) len cap ∧ Γ.U c ∧ (cap = 0 ∨ off' = off) ∧ len ≤ cap ∧ lb ≤ cap ∧
    b = Γ.blk c ∧ off + cap * esz ≤ Γ.siz c := by
  cases h with
  | tree h => cases h
  | osl _ _ _ _ _ b off' cap hU h1 h2 h3 h => exact ⟨b, off', cap, rfl, hU, h1, h2, h3, h⟩
theorem RL.eptr_inv {Γ : Ctx} {cells : List AV} {v : Value} (h : RL Γ (.eptr cells) v) : RT Γ.F Γ.w (.eptr cells) v := by
  cases h with
  | tree h => exact h
theorem RL.fsl_inv {Γ : Ctx} {n : Nat} {cells : List AV} {v : Value} (h : RL Γ (.fsl n cells) v) : RT Γ.F Γ.w (.fsl n cells) v := by
  cases h with
  | tree h => exact h

/-! ### Lists -/
theorem All2.nil (R : AV → Value → Prop) : All2 R [] [] := ⟨rfl, fun j a x h => by simp at h⟩
theorem All2.cons {R : AV → Value → Prop} {a : AV} {x : Value} {as : List AV} {xs : List Value} (h : R a x) (t : All2 R as xs) : All2 R (a :: as) (x :: xs) := by
  refine ⟨by simp [t.1], fun j b y hb hy => ?_⟩
  cases j with
  | zero => simp at hb hy; subst hb; subst hy; exact h
  | succ j => simp at hb hy; exact t.2 j b y hb hy
theorem All2.uncons {R : AV → Value → Prop} {a : AV} {as : List AV} {xs : List Value} (t : All2 R (a :: as) xs) : ∃ y ys, xs = y :: ys ∧ R a y ∧ All2 R as ys := by
  cases xs with
  | nil => have := t.1; simp at this
  | cons y ys => exact ⟨y, ys, rfl, t.2 0 a y rfl rfl, by have := t.1; simp at this; exact this, fun j b z hb hz => t.2 (j + 1) b z (by simpa using hb) (by simpa using hz)⟩
theorem All2.imp {R R' : AV → Value → Prop} {as : List AV} {xs : List Value} (t : All2 R as xs) (h : ∀ a x, R a x → R' a x) : All2 R' as xs := ⟨t.1, fun j a x h1 h2 => h a x (t.2 j a x h1 h2)⟩
theorem All2.get {R : AV → Value → Prop} {as : List AV} {xs : List Value} (t : All2 R as xs) {j : Nat} {a : AV} (h : as[j]? = some a) : ∃ x, xs[j]? = some x ∧ R a x := by
  have hj : j < as.length := (List.getElem?_eq_some_iff.1 h).1
  have hj' : j < xs.length := t.1 ▸ hj
  exact ⟨xs[j], by simp [hj'], t.2 j a _ h (by simp [hj'])⟩
theorem All2.append {R : AV → Value → Prop} {as bs : List AV} {xs ys : List Value} (t : All2 R as xs) (u : All2 R bs ys) : All2 R (as ++ bs) (xs ++ ys) := by
  refine ⟨by simp [t.1, u.1], fun j a x h1 h2 => ?_⟩
  by_cases hj : j < as.length
  · rw [List.getElem?_append_left hj] at h1
    rw [List.getElem?_append_left (t.1 ▸ hj)] at h2
    exact t.2 j a x h1 h2
  · rw [List.getElem?_append_right (by omega)] at h1
    rw [List.getElem?_append_right (by have := t.1; omega)] at h2
    exact u.2 _ a x h1 (by rw [t.1]; exact h2)
theorem All2.take {R : AV → Value → Prop} {as : List AV} {xs : List Value} (t : All2 R as xs) (n : Nat) : All2 R (as.take n) (xs.take n) := by
  refine ⟨by simp [t.1], fun j a x h1 h2 => ?_⟩
  rw [List.getElem?_take] at h1 h2
  split at h1 <;> simp_all
  exact t.2 j a x h1 h2
theorem All2.drop {R : AV → Value → Prop} {as : List AV} {xs : List Value} (t : All2 R as xs) (n : Nat) : All2 R (as.drop n) (xs.drop n) := by
  refine ⟨by simp [t.1], fun j a x h1 h2 => ?_⟩
  rw [List.getElem?_drop] at h1 h2
  exact t.2 _ a x h1 h2
theorem All2.of_arr {R : AV → Value → Prop} {as : List AV} {vs : Array Value} (hl : as.length = vs.size) (h : ∀ (j : Nat) (a : AV) (x : Value), as[j]? = some a → vs[j]? = some x → R a x) : All2 R as vs.toList :=
  ⟨by simp [hl], fun j a x h1 h2 => h j a x h1 (by simpa using h2)⟩
theorem All2.replicate {R : AV → Value → Prop} {a : AV} {x : Value} (h : R a x) (n : Nat) : All2 R (List.replicate n a) (List.replicate n x) := by
  refine ⟨by simp, fun j b y h1 h2 => ?_⟩
  simp only [List.getElem?_replicate] at h1 h2
  split at h1 <;> simp_all
theorem All2.mapO {α : Type} {R : AV → Value → Prop} {f : α → Option AV} {l : List α} {as : List AV} (h : Am.mapO f l = some as) {g : α → Value} (hg : ∀ x ∈ l, ∀ a, f x = some a → R a (g x)) : All2 R as (l.map g) := by
  induction l generalizing as with
  | nil => simp [Am.mapO] at h; subst h; exact .nil R
  | cons x xs ih =>
    simp only [Am.mapO] at h
    split at h
    · simp at h
    · rename_i y hy
      split at h
      · simp at h
      · rename_i ys hys
        simp at h; subst h
        exact .cons (hg x (by simp) y hy) (ih hys (fun z hz => hg z (by simp [hz])))

end Go.Am
