import Derived.Test.YtgkokjkoifdbnaaGreatExec
import Derived.Below
/- A call from outside, and what it leaves. -/
namespace Go.Am
set_option autoImplicit false
set_option linter.unusedSimpArgs false
set_option linter.unusedVariables false
open Go.RowKit (Below)

def EntOK (P : Program) (T : Table) (g : Nat) : AEntry → Prop
  | .code f m => FunOK P (compC P T) g f ∧ ∀ b args, m b args = none
  | .prim p => PrimOK P g p
def Tab.All (p : Nat → AEntry → Prop) : Tab → Prop
  | .nil => True
  | .node l k e r => l.All p ∧ p k e ∧ r.All p
theorem Tab.get_all {p : Nat → AEntry → Prop} : ∀ {t : Tab}, t.All p → ∀ {g : Nat} {e : AEntry}, t.get g = some e → p g e
  | .nil, _, g, e, h => by simp [Tab.get] at h
  | .node l k x r, ha, g, e, h => by
    obtain ⟨h1, h2, h3⟩ := ha
    simp only [Tab.get] at h
    by_cases hk : g = k
    · subst hk
      simp only [Nat.beq_refl, cond_true, Option.some.injEq] at h
      subst h; exact h2
    · simp only [nbeq_false hk, cond_false] at h
      cases hb : Nat.blt g k with
      | true => simp only [hb, cond_true] at h; exact Tab.get_all h1 h
      | false => simp only [hb, cond_false] at h; exact Tab.get_all h3 h
theorem tabOK_of {P : Program} {t : Tab} (h : t.All (EntOK P t.get)) : TabOK P (compC P t.get) t.get :=
  ⟨fun g f m hg => (Tab.get_all h hg : FunOK _ _ g f ∧ _).1, fun g f m hg b args r hm => by
    have := (Tab.get_all h hg : FunOK _ _ g f ∧ ∀ b args, m b args = none).2 b args
    rw [this] at hm; simp at hm, fun g p hg => Tab.get_all h hg⟩

theorem runA_calls {P : Program} (hm : P.follows .mixedOrders = true) {T : Table} (hT : TabOK P (compC P T) T) {n g : Nat} {args : List AV} {r : AV} (h : runA T n g args = some r)
    {w : World} {vs : Array Value} (hargs : All2 (RT (fun b => b < w.heap.size) w) args vs.toList) :
    Calls P g vs w fun e w' => ∃ v, e = .returned v ∧ Below w.heap.size w w' ∧ RT (fun b => b < w'.heap.size) w' r v := by
  unfold runA at h
  cases hg : T g with
  | none => simp [hg] at h
  | some x =>
    cases x with
    | prim p => simp [hg] at h
    | code f m =>
      simp only [hg] at h
      cases hr : runF (exec T n) f args [] 0 with
      | none => simp [hr] at h
      | some y =>
        obtain ⟨r0, H, nx⟩ := y
        simp only [hr] at h
        let Γ : Ctx := { H := [], U := fun _ => False, blk := fun _ => 0, siz := fun _ => 0, F := fun b => b < w.heap.size, w := w }
        have hR : HRel Γ := ⟨fun c ch h => by simp [Γ, hget] at h, fun c c' ch ch' h => by simp [Γ, hget] at h, fun c ch h => by simp [Γ, hget] at h, fun b hb => hb⟩
        have hrun := run_ok (exec_ok hm hT n).wp (hT.code g f m hg)
        have := hrun args [] 0 r0 H nx hr Γ vs rfl hR (fun c hc => hc.elim) (hargs.imp fun a x hx => .tree hx) 0
        refine this.mono ?_
        rintro e w' ⟨v, Γ', rfl, rfl, hb⟩
        refine ⟨v, rfl, ⟨hb.ev.os, hb.ev.tape, hb.ev.output, hb.ev.size, fun k hk => (hb.ev.frame k hk (fun c ch h => by simp [Γ, hget] at h)).1⟩, ?_⟩
        refine frz_ok hb.ok (Fx := fun b => b < Γ'.w.heap.size) (fun _ b hF => hb.ok.bnd b hF) depthA (by rw [hb.H]; exact h) hb.rl (fun _ c ch hc => ?_)
        obtain ⟨_, arr, h1, _⟩ := hb.ok.ok c ch hc
        exact heap_lt h1

def isT : Option AV → Bool
  | some (.v (.bool b)) => b
  | _ => false

theorem law_calls {P : Program} (hm : P.follows .mixedOrders = true) {T : Table} (hT : TabOK P (compC P T) T) {n g : Nat} {args : List AV} (h : isT (runA T n g args) = true)
    {w : World} {vs : Array Value} (hargs : All2 (RT (fun b => b < w.heap.size) w) args vs.toList) :
    Calls P g vs w fun e w' => e = .returned (.bool true) ∧ Below w.heap.size w w' := by
  have : runA T n g args = some (.v (.bool true)) := by
    cases hr : runA T n g args with
    | none => simp [hr, isT] at h
    | some x =>
      rw [hr] at h
      cases x with
      | v y => cases y <;> simp_all [isT]
      | _ => simp [isT] at h
  refine (runA_calls hm hT this hargs).mono ?_
  rintro e w' ⟨v, rfl, hb, hr⟩
  cases hr
  exact ⟨rfl, hb⟩

/-- An argument's cells as they are. -/
theorem rt_agg {F : Nat → Prop} {w : World} (vs : Array Value) : RT F w (.agg (vs.toList.map .v)) (.agg vs) :=
  .agg _ vs (by simp) (fun j a x ha hx => by
    simp only [List.getElem?_map, Option.map_eq_some_iff] at ha
    obtain ⟨y, hy, rfl⟩ := ha
    have : vs[j]? = some y := by simpa using hy
    rw [hx] at this; injection this with this; subst this
    exact .v x)

end Go.Am
