import Derived.Test.YtgkokjkoifdbnaaGreatSoC
import Derived.Test.YtgkokjkoifdbnaaGreatFa
import Derived.KernelRfl
/- Answers that are known. -/
namespace Go.Am
set_option autoImplicit false
set_option linter.unusedSimpArgs false
set_option linter.unusedVariables false

section
variable {T T' : Table} (h1 : ownG T = ownG T') (h2 : inG T = inG T')
include h1 h2
omit h2 in
theorem makes_congr (o : AOp) : o.makes T = o.makes T' := by
  cases o <;> simp [AOp.makes, h1]
omit h1 in
theorem numbers_congr (o : AOp) : o.numbers T = o.numbers T' := by
  cases o <;> simp [AOp.numbers, h2]
omit h2 in
theorem meets_congr (x y : AOp) : meets T x y = meets T' x y := by
  simp [meets, makes_congr h1]
omit h2 in
theorem unOf_congr (b : Nat) (o : AOper) : ∀ (ps : List AOper) (k : Nat), unOf T b o ps k = unOf T' b o ps k
  | [], k => rfl
  | p :: ps, k => by simp only [unOf, meets_congr h1, unOf_congr b o ps (k + 1)]
omit h1 in
theorem apartT_congr (o p : AOper) : apartT T o p = apartT T' o p := by
  simp [apartT, numbers_congr h2]
omit h1 in
theorem fitD_congr (b : Nat) (o : AOper) : ∀ (ps : List AOper) (k : Nat), fitD T b o ps k = fitD T' b o ps k
  | [], k => rfl
  | p :: ps, k => by simp only [fitD, apartT_congr h2, fitD_congr b o ps (k + 1)]
theorem compD_congr : ∀ (bs : List Nat) (done os : List AOper), compD T bs done os = compD T' bs done os
  | bs, done, [] => by cases bs <;> rfl
  | [], done, _ :: _ => rfl
  | b :: bs, done, o :: os => by simp only [compD, fitD_congr h2, unOf_congr h1, compD_congr bs (done ++ [o]) os]
theorem compRegion_congr (P : Program) (ops : Array Oper) (d : Bool) : compRegion P T ops d = compRegion P T' ops d := by
  unfold compRegion
  cases mapO (compOper P ops) ops.toList with
  | none => rfl
  | some as => simp only [compD_congr h1 h2]
theorem compC_congr (P : Program) : ∀ c : Code, compC P T c = compC P T' c := by
  intro c
  induction c with
  | region rid ops d => simp only [compC, compRegion_congr h1 h2]
  | _ => simp_all [compC]
end

theorem ownG_with (T : Table) (mm : Nat → Bool → List AV → Option AV) : ownG (withM T mm) = ownG T := by
  funext g
  unfold ownG withM
  cases T g with
  | none => rfl
  | some e => cases e <;> rfl
theorem inG_with (T : Table) (mm : Nat → Bool → List AV → Option AV) : inG (withM T mm) = inG T := by
  funext g
  unfold inG withM
  cases T g with
  | none => rfl
  | some e => cases e <;> rfl
theorem comp_with (P : Program) (T : Table) (mm : Nat → Bool → List AV → Option AV) : compC P (withM T mm) = compC P T := by
  funext c
  exact compC_congr (ownG_with T mm) (inG_with T mm) P c

def MemOK (P : Program) (comp : Code → Option ACode) (f : AFun) (b : Bool) (args : List AV) (r : AV) : Prop :=
  ∃ ex r0 H2 n2, WpOK P comp ex ∧ runF ex f args [] 0 = some (r0, H2, n2) ∧ frz b H2 depthA r0 = some r

theorem tabOK_with {P : Program} {T : Table} (h : TabOK P (compC P T) T) {mm : Nat → Bool → List AV → Option AV}
    (hm : ∀ g f m0, T g = some (.code f m0) → ∀ b args r, mm g b args = some r → MemOK P (compC P T) f b args r) : TabOK P (compC P (withM T mm)) (withM T mm) := by
  rw [comp_with]
  refine ⟨fun g f m hg => ?_, fun g f m hg b args r hr => ?_, fun g p hg => ?_⟩
  · unfold withM at hg
    split at hg
    · rename_i f' m' e
      simp only [Option.some.injEq, AEntry.code.injEq] at hg
      obtain ⟨rfl, _⟩ := hg
      exact h.code g f' m' e
    · rename_i e
      exact absurd hg (fun hg => e f m hg)
  · unfold withM at hg
    split at hg
    · rename_i f' m' e
      simp only [Option.some.injEq, AEntry.code.injEq] at hg
      obtain ⟨rfl, rfl⟩ := hg
      exact hm g f' m' e b args r hr
    · rename_i e
      exact absurd hg (fun hg => e f m hg)
  · unfold withM at hg
    split at hg
    · simp at hg
    · exact h.prim g p hg

/-- An answer that the interpreter told may be known. -/
theorem memOK_of {P : Program} (hm : P.follows .mixedOrders = true) {T : Table} (h : TabOK P (compC P T) T) {n g : Nat} {b : Bool} {args : List AV} {r : AV} (hr : ownA T n g b args = some r) {f : AFun} {m0 : Bool → List AV → Option AV} (hf : T g = some (.code f m0)) : MemOK P (compC P T) f b args r := by
  unfold ownA at hr
  rw [hf] at hr
  simp only at hr
  cases hx : runF (exec T n) f args [] 0 with
  | none => simp [hx] at hr
  | some x =>
    obtain ⟨r0, H2, n2⟩ := x
    simp only [hx] at hr
    exact ⟨exec T n, r0, H2, n2, (exec_ok hm h n).wp, hx, hr⟩

/-! ### Answers in a list -/
noncomputable def intSame (x : Int) (y : Int) : Bool := Int.rec (motive := fun _ => Bool) (fun a => Int.rec (motive := fun _ => Bool) (fun b => Nat.beq a b) (fun _ => false) y) (fun a => Int.rec (motive := fun _ => Bool) (fun _ => false) (fun b => Nat.beq a b) y) x
theorem intSame_eq {x y : Int} (h : intSame x y = true) : x = y := by
  cases x <;> cases y
  · exact congrArg Int.ofNat (Nat.eq_of_beq_eq_true h)
  · exact absurd h (by simp [intSame])
  · exact absurd h (by simp [intSame])
  · exact congrArg Int.negSucc (Nat.eq_of_beq_eq_true h)
def kindSame (k k' : IntKind) : Bool := if k = k' then true else false
def bytesSame : List UInt8 → List UInt8 → Bool
  | [], [] => true
  | a :: r, b :: s => bif Nat.beq a.toNat b.toNat then bytesSame r s else false
  | _, _ => false
theorem bytesSame_eq : ∀ {r s : List UInt8}, bytesSame r s = true → r = s
  | [], [], _ => rfl
  | [], _ :: _, h => by simp [bytesSame] at h
  | _ :: _, [], h => by simp [bytesSame] at h
  | a :: r, b :: s, h => by
    simp only [bytesSame] at h
    cases hb : Nat.beq a.toNat b.toNat with
    | false => simp [hb] at h
    | true =>
      simp only [hb, cond_true] at h
      rw [UInt8.toNat_inj.1 (Nat.eq_of_beq_eq_true hb), bytesSame_eq h]
noncomputable def valEq (x y : Value) : Bool := match x, y with
  | .int k a, .int k' b => bif kindSame k k' then intSame a b else false
  | .bool a, .bool b => a == b
  | .string a, .string b => bytesSame a.data.toList b.data.toList
  | .slice none n c, .slice none n' c' => Nat.beq n n' && Nat.beq c c'
  | .complex .f64 a b, .complex .f64 a' b' => Nat.beq a a' && Nat.beq b b'
  | .pointer none, .pointer none => true
  | _, _ => false
theorem valEq_eq {x y : Value} (h : valEq x y = true) : x = y := by
  unfold valEq at h
  split at h
  · rename_i k a k' b
    unfold kindSame at h
    split at h
    · rename_i hk
      simp only [cond_true] at h
      rw [hk, intSame_eq h]
    · simp at h
  · rename_i a b
    have : a = b := by simpa using h
    rw [this]
  · rename_i a b
    have := bytesSame_eq h
    obtain ⟨⟨a⟩⟩ := a
    obtain ⟨⟨b⟩⟩ := b
    simp_all
  · rename_i n c n' c'
    simp only [Bool.and_eq_true] at h
    rw [Nat.eq_of_beq_eq_true h.1, Nat.eq_of_beq_eq_true h.2]
  · rename_i n c n' c'
    simp only [Bool.and_eq_true] at h
    rw [Nat.eq_of_beq_eq_true h.1, Nat.eq_of_beq_eq_true h.2]
  · rfl
  · simp at h
mutual
noncomputable def avEq : AV → AV → Bool
  | .v x, .v y => valEq x y
  | .eptr a, .eptr b => avsEq a b
  | .fn g a, .fn h b => bif Nat.beq g h then avsEq a b else false
  | .fsl n a, .fsl m b => bif Nat.beq n m then avsEq a b else false
  | .agg a, .agg b => avsEq a b
  | .tup a, .tup b => avsEq a b
  | _, _ => false
noncomputable def avsEq : List AV → List AV → Bool
  | [], [] => true
  | a :: r, b :: s => bif avEq a b then avsEq r s else false
  | _, _ => false
end
mutual
theorem avEq_eq : ∀ {a b : AV}, avEq a b = true → a = b
  | .v x, b, h => by
    cases b <;> first | (simp only [avEq] at h; rw [valEq_eq h]) | simp [avEq] at h
  | .eptr x, b, h => by
    cases b <;> first | (simp only [avEq] at h; rw [avsEq_eq h]) | simp [avEq] at h
  | .fsl n x, b, h => by
    cases b with
    | fsl m y =>
      simp only [avEq] at h
      cases hn : Nat.beq n m with
      | false => simp [hn] at h
      | true =>
        simp only [hn, cond_true] at h
        rw [avsEq_eq h, Nat.eq_of_beq_eq_true hn]
    | _ => simp [avEq] at h
  | .agg x, b, h => by
    cases b <;> first | (simp only [avEq] at h; rw [avsEq_eq h]) | simp [avEq] at h
  | .tup x, b, h => by
    cases b <;> first | (simp only [avEq] at h; rw [avsEq_eq h]) | simp [avEq] at h
  | .ptr _ _, b, h => by cases b <;> simp [avEq] at h
  | .osl _ _ _ _ _, b, h => by cases b <;> simp [avEq] at h
  | .fn g x, b, h => by
    cases b with
    | fn m y =>
      simp only [avEq] at h
      cases hn : Nat.beq g m with
      | false => simp [hn] at h
      | true =>
        simp only [hn, cond_true] at h
        rw [avsEq_eq h, Nat.eq_of_beq_eq_true hn]
    | _ => simp [avEq] at h
theorem avsEq_eq : ∀ {a b : List AV}, avsEq a b = true → a = b
  | [], b, h => by cases b <;> first | rfl | simp [avsEq] at h
  | a :: r, b, h => by
    cases b with
    | nil => simp [avsEq] at h
    | cons b s =>
      simp only [avsEq] at h
      cases hb : avEq a b with
      | false => simp [hb] at h
      | true =>
        simp only [hb, cond_true] at h
        rw [avEq_eq hb, avsEq_eq h]
end

/-- An answer that is known: of which function, of nothing that came in, arguments, the answer. -/
structure Known where
  g : Nat
  b : Bool
  args : List AV
  r : AV
noncomputable def lookM : List Known → Nat → Bool → List AV → Option AV
  | [], _, _, _ => none
  | k :: l, g, b, args => bif Nat.beq k.g g && (k.b == b) && avsEq args k.args then some k.r else lookM l g b args
theorem lookM_mem : ∀ {l : List Known} {g : Nat} {b : Bool} {args : List AV} {r : AV}, lookM l g b args = some r → (⟨g, b, args, r⟩ : Known) ∈ l
  | [], _, _, _, _, h => by simp [lookM] at h
  | k :: l, g, b, args, r, h => by
    simp only [lookM] at h
    cases hc : (Nat.beq k.g g && (k.b == b) && avsEq args k.args) with
    | false => simp only [hc, cond_false] at h; exact List.mem_cons_of_mem _ (lookM_mem h)
    | true =>
      simp only [hc, cond_true, Option.some.injEq] at h
      simp only [Bool.and_eq_true, beq_iff_eq] at hc
      obtain ⟨⟨h1, h2⟩, h3⟩ := hc
      obtain ⟨g', b', a', r'⟩ := k
      simp only at h h1 h2 h3
      rw [← Nat.eq_of_beq_eq_true h1, ← h2, avsEq_eq h3, ← h]
      exact List.mem_cons_self
/-- Each of them is so. -/
def AllK (T : Table) (Q : AFun → Bool → List AV → AV → Prop) : List Known → Prop
  | [] => True
  | k :: l => (∀ f m, T k.g = some (.code f m) → Q f k.b k.args k.r) ∧ AllK T Q l
theorem AllK.mem {T : Table} {Q : AFun → Bool → List AV → AV → Prop} : ∀ {l : List Known}, AllK T Q l → ∀ {k : Known}, k ∈ l → ∀ f m, T k.g = some (.code f m) → Q f k.b k.args k.r
  | [], _, k, h => by simp at h
  | k' :: l, ha, k, h => by
    rcases List.mem_cons.1 h with rfl | h
    · exact ha.1
    · exact ha.2.mem h
theorem AllK.append {T : Table} {Q : AFun → Bool → List AV → AV → Prop} : ∀ {l l' : List Known}, AllK T Q l → AllK T Q l' → AllK T Q (l ++ l')
  | [], _, _, h => h
  | _ :: _, _, h, h' => ⟨h.1, h.2.append h'⟩
theorem tabOK_look {P : Program} {T : Table} (h : TabOK P (compC P T) T) {l : List Known} (hl : AllK T (MemOK P (compC P T)) l) : TabOK P (compC P (withM T (lookM l))) (withM T (lookM l)) :=
  tabOK_with h fun g f m0 hg b args r hr => hl.mem (lookM_mem hr) f m0 hg

/-- An answer that a table with known answers told may be known, too. -/
theorem memOK_with {P : Program} (hm : P.follows .mixedOrders = true) {T : Table} {mm : Nat → Bool → List AV → Option AV} (h : TabOK P (compC P (withM T mm)) (withM T mm)) {n g : Nat} {b : Bool} {args : List AV} {r : AV} (hr : ownA (withM T mm) n g b args = some r) :
    ∀ f m, T g = some (.code f m) → MemOK P (compC P T) f b args r := by
  intro f m hf
  have := memOK_of hm h hr (f := f) (m0 := mm g) (by unfold withM; rw [hf])
  rwa [comp_with] at this

end Go.Am

/- An answer that is known, by a fast run. -/
namespace Go.Am
set_option autoImplicit false
noncomputable def isR (o : Option AV) (r : AV) : Bool := match o with
  | none => false
  | some a => avEq a r
theorem known {P : Program} (hm : P.follows .mixedOrders = true) {T : Table} {mm : Nat → Bool → List AV → Option AV} (h : TabOK P (compC P (withM T mm)) (withM T mm)) {n g : Nat} {b : Bool} {args : List AV} {r : AV} (hr : isR (ownAF (withM T mm) n g b args) r = true) :
    ∀ f m, T g = some (.code f m) → MemOK P (compC P T) f b args r := by
  unfold isR at hr
  rw [ownAF_eq] at hr
  split at hr
  · simp at hr
  · rename_i a ha
    rw [avEq_eq hr] at ha
    exact memOK_with hm h ha
end Go.Am

/- The interpreter with what comes behind as an argument: what it does can be read off, step by step, by Lean's kernel. -/
namespace Go.Am
set_option autoImplicit false
set_option linter.unusedVariables false

abbrev RK := AV × Heap × Nat
abbrev KO := Option RK
abbrev CF := Nat → Nat → List AV → Heap → Nat → KO
/-- A value, if it is one. -/
def pureK (o : Option AV) (K : AV → KO) : KO := match o with
  | none => none
  | some a => K a
def heapK (o : Option (AV × Heap)) (K : AV → Heap → KO) : KO := match o with
  | none => none
  | some (a, H) => K a H
def callK (o : KO) (K : AV → Heap → Nat → KO) : KO := match o with
  | none => none
  | some (a, H, nx) => K a H nx
def condK (x : AV) (a b : KO) : KO := match x with
  | .v (.bool t) => bif t then a else b
  | _ => none
def guardK (x : AV) (want : Bool) (o : KO) (H : Heap) (nx : Nat) (K : AV → Heap → Nat → KO) : KO :=
  callK (match x with
    | .v (.bool t) => bif t == want then o else some (aundef, H, nx)
    | _ => some (aundef, H, nx)) K
def vpick (c a b : AV) : Option AV := match c with
  | .v (.bool t) => some (bif t then a else b)
  | _ => none
def vbox (sz : Nat) (x : AV) : Option (List AV) := bif Nat.beq x.cells.length sz then some x.cells else none
def cellsK (o : Option (List AV)) (K : List AV → KO) : KO := match o with
  | none => none
  | some cs => K cs
def vbin (op : BinOp) (x y : AV) : Option AV := match x, y with
  | .v a, .v b => (abin op a b).map .v
  | _, _ => none
def vbeq (neg : Bool) (x y : AV) : Option AV := match x, y with
  | .v (.bool a), .v (.bool b) => some (.v (.bool (bif neg then !(a == b) else a == b)))
  | _, _ => none
def veqAgg (neg : Bool) (ks : List Nat) (x y : AV) : Option AV := match x, y with
  | .agg a, .agg b => (eqCells ks a b).map fun r => .v (.bool (bif neg then !r else r))
  | _, _ => none
def vun (op : UnOp) (x : AV) : Option AV := match x with
  | .v a => (aun op a).map .v
  | _ => none
def vconv (k : IntKind) (x : AV) : Option AV := match x with
  | .v (.int _ n) => some (.v (.int k (k.wrap n)))
  | _ => none
def vfield (agg : Bool) (off sz : Nat) (x : AV) : Option AV := match x with
  | .agg cs => bif agg then (bif Nat.ble (off + sz) cs.length then some (.agg ((cs.drop off).take sz)) else none) else cs[off]?
  | _ => none
def viaddr (esz : Nat) (x i : AV) : Option AV := match intA i with
  | none => none
  | some n => iaddrA esz n x
def vext (x : AV) (i : Nat) : Option AV := match x with
  | .tup vs => vs[i]?
  | _ => none
def vlen (x : AV) : Option AV := match x with
  | .v (.string _) => none
  | a => (lenA a).map fun n => .v (.int .i64 n)
def vlenS (x : AV) : Option AV := match x with
  | .v (.string s) => some (.v (.int .i64 s.size))
  | _ => none
def vnil (x : AV) : Option AV := match x with
  | .ptr c off => some (.ptr c off)
  | .eptr cs => some (.eptr cs)
  | .fn g cs => some (.fn g cs)
  | _ => none

/-- What an operation tells, if it is no call and changes no memory. -/
def avalue (op : AOp) (tm : TM) (H : Heap) : Option AV :=
  match aop op tm 0 H with
  | some (.val a _) => some a
  | _ => none
def valOf : Option Out → Option (AV × Heap)
  | some (.val a H) => some (a, H)
  | _ => none
def callvK (cf : CF) (id : Nat) (f : AV) (args : List AV) (H : Heap) (nx : Nat) (K : AV → Heap → Nat → KO) : KO := match f with
  | .fn g caps => callK (cf id g (args ++ caps) H nx) K
  | _ => none

def aopK (cf : CF) (op : AOp) (tm : TM) (id : Nat) (H : Heap) (nx : Nat) (K : AV → Heap → Nat → KO) : KO :=
  match op with
  | .move x => K (x.ev tm) H nx
  | .pick c a b => pureK (vpick (c.ev tm) (a.ev tm) (b.ev tm)) fun v => K v H nx
  | .alloc ty zero => K (.ptr id 0) ((id, ⟨ty, zero⟩) :: H) nx
  | .box ty sz x => cellsK (vbox sz (x.ev tm)) fun cs => K (.ptr id 0) ((id, ⟨ty, cs⟩) :: H) nx
  | .load agg sz x => pureK (loadA H agg sz (x.ev tm)) fun v => K v H nx
  | .store sz a x => match storeA H sz (a.ev tm) (x.ev tm) with
    | none => none
    | some H' => K aundef H' nx
  | .nilChk x => pureK (vnil (x.ev tm)) fun v => K v H nx
  | .bin op x y => pureK (vbin op (x.ev tm) (y.ev tm)) fun v => K v H nx
  | .beq neg x y => pureK (vbeq neg (x.ev tm) (y.ev tm)) fun v => K v H nx
  | .eqAgg neg ks x y => pureK (veqAgg neg ks (x.ev tm) (y.ev tm)) fun v => K v H nx
  | .un op x => pureK (vun op (x.ev tm)) fun v => K v H nx
  | .conv k x => pureK (vconv k (x.ev tm)) fun v => K v H nx
  | .field agg off sz x => pureK (vfield agg off sz (x.ev tm)) fun v => K v H nx
  | .faddr off x => pureK (faddrA off (x.ev tm)) fun v => K v H nx
  | .iaddr esz x i => pureK (viaddr esz (x.ev tm) (i.ev tm)) fun v => K v H nx
  | .ext x i => pureK (vext (x.ev tm) i) fun v => K v H nx
  | .len x => pureK (vlen (x.ev tm)) fun v => K v H nx
  | .lenS x => pureK (vlenS (x.ev tm)) fun v => K v H nx
  | .mkfn g caps => K (.fn g (caps.map (·.ev tm))) H nx
  | .call g args => callK (cf id g (args.map (·.ev tm)) H nx) K
  | .callv f args => callvK cf id (f.ev tm) (args.map (·.ev tm)) H nx K
  | .append ty esz bytes s x => heapK (appendA id ty esz bytes H (s.ev tm) (x.ev tm)) fun v H' => K v H' nx
  | op => heapK (valOf (aop op tm id H)) fun v H' => K v H' nx

theorem pureK_some {o : Option AV} {K : AV → KO} {r : RK} (h : pureK o K = some r) : ∃ a, o = some a ∧ K a = some r := by
  cases o with
  | none => simp [pureK] at h
  | some a => exact ⟨a, rfl, h⟩
theorem heapK_some {o : Option (AV × Heap)} {K : AV → Heap → KO} {r : RK} (h : heapK o K = some r) : ∃ a H, o = some (a, H) ∧ K a H = some r := by
  cases o with
  | none => simp [heapK] at h
  | some a => exact ⟨a.1, a.2, rfl, h⟩
theorem callK_some {o : KO} {K : AV → Heap → Nat → KO} {r : RK} (h : callK o K = some r) : ∃ a H nx, o = some (a, H, nx) ∧ K a H nx = some r := by
  cases o with
  | none => simp [callK] at h
  | some a => exact ⟨a.1, a.2.1, a.2.2, rfl, h⟩

theorem aopK_ok {cf : CF} {op : AOp} {tm : TM} {id : Nat} {H : Heap} {nx : Nat} {K : AV → Heap → Nat → KO} {r : RK} (h : aopK cf op tm id H nx K = some r) :
    (∃ a H', aop op tm id H = some (.val a H') ∧ K a H' nx = some r) ∨ ∃ g args a H' nx', aop op tm id H = some (.call g args) ∧ cf id g args H nx = some (a, H', nx') ∧ K a H' nx' = some r := by
  have dflt : ∀ {op : AOp}, heapK (valOf (aop op tm id H)) (fun v H' => K v H' nx) = some r → ∃ a H', aop op tm id H = some (.val a H') ∧ K a H' nx = some r := by
    intro op h
    obtain ⟨a, H', h1, h2⟩ := heapK_some h
    unfold valOf at h1
    split at h1
    · rename_i a' H2 e
      simp only [Option.some.injEq, Prod.mk.injEq] at h1
      obtain ⟨rfl, rfl⟩ := h1
      exact ⟨_, _, e, h2⟩
    · simp at h1
  cases op with
  | move x => exact .inl ⟨_, _, rfl, h⟩
  | alloc ty zero => exact .inl ⟨_, _, rfl, h⟩
  | mkfn g caps => exact .inl ⟨_, _, rfl, h⟩
  | box ty sz x =>
    simp only [aopK, cellsK, vbox] at h
    cases hb : Nat.beq (x.ev tm).cells.length sz with
    | false => simp [hb] at h
    | true => simp only [hb, cond_true] at h; exact .inl ⟨_, _, by simp [aop, hb], h⟩
  | pick c a b =>
    obtain ⟨v, h1, h2⟩ := pureK_some h
    refine .inl ⟨v, H, ?_, h2⟩
    unfold vpick at h1; simp only [aop]
    split at h1
    · rename_i e; simp only [e, boolA]; simpa using h1
    · simp at h1
  | load agg sz x => obtain ⟨v, h1, h2⟩ := pureK_some h; exact .inl ⟨v, H, by simp [aop, out, h1], h2⟩
  | store sz a x =>
    simp only [aopK] at h
    split at h
    · simp at h
    · rename_i H' e; exact .inl ⟨_, _, by simp only [aop, e]; rfl, h⟩
  | nilChk x =>
    obtain ⟨v, h1, h2⟩ := pureK_some h
    refine .inl ⟨v, H, ?_, h2⟩
    simp only [aop]
    cases hx : x.ev tm <;> rw [hx] at h1 <;> simp only [vnil] at h1 <;> first | (simp only [Option.some.injEq] at h1; subst h1; rfl) | simp at h1
  | bin op x y =>
    obtain ⟨v, h1, h2⟩ := pureK_some h
    refine .inl ⟨v, H, ?_, h2⟩
    unfold vbin at h1; simp only [aop]
    split at h1 <;> simp_all [out]
  | beq neg x y =>
    obtain ⟨v, h1, h2⟩ := pureK_some h
    refine .inl ⟨v, H, ?_, h2⟩
    unfold vbeq at h1; simp only [aop]
    split at h1
    · rename_i e1 e2; simp only [e1, e2]; simp only [Option.some.injEq] at h1; rw [h1]
    · simp at h1
  | eqAgg neg ks x y =>
    obtain ⟨v, h1, h2⟩ := pureK_some h
    refine .inl ⟨v, H, ?_, h2⟩
    unfold veqAgg at h1; simp only [aop]
    split at h1
    · rename_i e1 e2; simp only [e1, e2]; rw [h1]; rfl
    · simp at h1
  | un op x =>
    obtain ⟨v, h1, h2⟩ := pureK_some h
    refine .inl ⟨v, H, ?_, h2⟩
    unfold vun at h1; simp only [aop]
    split at h1 <;> simp_all [out]
  | conv k x =>
    obtain ⟨v, h1, h2⟩ := pureK_some h
    refine .inl ⟨v, H, ?_, h2⟩
    unfold vconv at h1; simp only [aop]
    split at h1 <;> simp_all
  | field agg off sz x =>
    obtain ⟨v, h1, h2⟩ := pureK_some h
    refine .inl ⟨v, H, ?_, h2⟩
    unfold vfield at h1; simp only [aop]
    split at h1
    · rename_i cs e
      simp only [e]
      cases agg with
      | true =>
        simp only [cond_true] at h1 ⊢
        cases hb : Nat.ble (off + sz) cs.length with
        | false => simp [hb] at h1
        | true => simp only [hb, cond_true, Option.some.injEq] at h1 ⊢; rw [h1]
      | false => simp only [cond_false] at h1 ⊢; rw [h1]; rfl
    · simp at h1
  | faddr off x => obtain ⟨v, h1, h2⟩ := pureK_some h; exact .inl ⟨v, H, by simp [aop, out, h1], h2⟩
  | iaddr esz x i =>
    obtain ⟨v, h1, h2⟩ := pureK_some h
    refine .inl ⟨v, H, ?_, h2⟩
    unfold viaddr at h1; simp only [aop]
    split at h1
    · simp at h1
    · rename_i n e; simp only [e, out, h1]; rfl
  | ext x i =>
    obtain ⟨v, h1, h2⟩ := pureK_some h
    refine .inl ⟨v, H, ?_, h2⟩
    unfold vext at h1; simp only [aop]
    split at h1
    · rename_i vs e; simp only [e, out, h1]; rfl
    · simp at h1
  | len x =>
    obtain ⟨v, h1, h2⟩ := pureK_some h
    refine .inl ⟨v, H, ?_, h2⟩
    unfold vlen at h1; simp only [aop]
    split at h1
    · simp at h1
    · rename_i e
      split
      · rename_i s hs; exact absurd hs (e s)
      · rw [h1]; rfl
  | lenS x =>
    obtain ⟨v, h1, h2⟩ := pureK_some h
    refine .inl ⟨v, H, ?_, h2⟩
    unfold vlenS at h1; simp only [aop]
    split at h1 <;> simp_all
  | call g args =>
    obtain ⟨a, H', nx', h1, h2⟩ := callK_some h
    exact .inr ⟨_, _, a, H', nx', rfl, h1, h2⟩
  | callv f args =>
    simp only [aopK, callvK] at h
    split at h
    · rename_i g caps e
      obtain ⟨a, H', nx', h1, h2⟩ := callK_some h
      exact .inr ⟨_, _, a, H', nx', by simp [aop, e], h1, h2⟩
    · simp at h
  | append ty esz bytes s x =>
    obtain ⟨a, H', h1, h2⟩ := heapK_some h
    exact .inl ⟨a, H', by simp only [aop, h1]; rfl, h2⟩
  | build _ _ => exact .inl (dflt h)
  | buildSlice _ _ _ _ _ => exact .inl (dflt h)
  | eqNilS _ _ => exact .inl (dflt h)
  | eqNilP _ _ => exact .inl (dflt h)
  | convS _ => exact .inl (dflt h)
  | b2s _ => exact .inl (dflt h)
  | s2b _ => exact .inl (dflt h)
  | mkslice _ _ _ _ _ _ => exact .inl (dflt h)
  | slice _ _ _ _ _ => exact .inl (dflt h)
  | sliceS _ _ _ => exact .inl (dflt h)
  | aaddr _ _ _ _ => exact .inl (dflt h)
  | index _ _ => exact .inl (dflt h)
  | aindex _ _ _ _ _ => exact .inl (dflt h)
  | copy _ _ _ => exact .inl (dflt h)
  | clear _ _ _ => exact .inl (dflt h)
  | max _ => exact .inl (dflt h)
  | min _ => exact .inl (dflt h)
  | bad => exact .inl (dflt h)

end Go.Am

/- Code, with what comes behind as an argument. -/
namespace Go.Am
set_option autoImplicit false
set_option linter.unusedVariables false
set_option linter.unusedSimpArgs false

def opK (cf : CF) (id : Nat) (o : AOper) (s : St) (K : St → KO) : KO :=
  match o.guard with
  | none => aopK cf o.op s.tm id s.H s.nx fun a H nx => K (({ s with H := H, nx := nx } : St).put o a)
  | some (t, want) => guardK (tget s.tm t) want (aopK cf o.op s.tm id s.H s.nx fun a H nx => some (a, H, nx)) s.H s.nx fun a H nx => K (({ s with H := H, nx := nx } : St).put o a)
noncomputable def regK (cf : CF) (os : List AOper) : Nat → St → (St → KO) → KO :=
  List.rec (motive := fun _ => Nat → St → (St → KO) → KO) (fun _ s K => K s) (fun o _ rest id s K => opK cf id o s fun s' => rest (id + 1) s' K) os

def drOf (T : Table) (op : AOp) (t : List Nat) (nx : Nat) (a : AV) (H2 : Heap) (nx2 : Nat) : DR :=
  bif op.makes T then ⟨a, t, t, H2, bif op.numbers T then nx2 else nx⟩ else ⟨a, t, [], [], nx⟩
def gK (x : AV) (want : Bool) (o : KO) : KO := match x with
  | .v (.bool t) => bif t == want then o else some (aundef, [], 0)
  | _ => some (aundef, [], 0)
def drG (g : Bool) (T : Table) (op : AOp) (t : List Nat) (nx : Nat) (a : AV) (H2 : Heap) (nx2 : Nat) : DR :=
  bif op.makes T then (bif g then ⟨a, t, t, H2, bif op.numbers T then nx2 else nx⟩ else ⟨aundef, [], [], [], nx⟩) else ⟨a, bif g then t else [], [], [], nx⟩
def dopK (T : Table) (cf : CF) (id : Nat) (o : AOper) (s : St) (K : DR → KO) : KO :=
  match o.guard with
  | none => aopK cf o.op s.tm id (hin (touchA s.tm s.H o.op) s.H) s.nx fun a H nx => K (drOf T o.op (touchA s.tm s.H o.op) s.nx a H nx)
  | some (t, want) => callK (gK (tget s.tm t) want (aopK cf o.op s.tm id (hin (touchA s.tm s.H o.op) s.H) s.nx fun a H nx => some (a, H, nx))) fun a H nx => K (drG (goes s.tm o) T o.op (touchA s.tm s.H o.op) s.nx a H nx)
noncomputable def dregK (T : Table) (cf : CF) (os : List AOper) : Nat → St → (List DR → St → KO) → KO :=
  List.rec (motive := fun _ => Nat → St → (List DR → St → KO) → KO) (fun _ s K => K [] s) (fun o _ rest id s K => dopK T cf id o s fun d => rest (id + 1) (dput s o.dst d) fun ds s' => K (d :: ds) s') os

abbrev KC := AEx → St → KO
def seqC (b : St → KC → KO) (K : KC) : KC := fun e s => match e with
  | .normal => b s K
  | .exit id => K (.exit id) s
  | .goto l => K (.goto l) s
  | .ret => K .ret s
def blockC (id : Nat) (K : KC) : KC := fun e s => match e with
  | .exit id' => bif Nat.beq id' id then K .normal s else K (.exit id') s
  | .normal => K .normal s
  | .goto l => K (.goto l) s
  | .ret => K .ret s
def loopC (again : St → KC → KO) (K : KC) : KC := fun e s => match e with
  | .normal => again s K
  | .exit id => K (.exit id) s
  | .goto l => K (.goto l) s
  | .ret => K .ret s
def scopeC (again : ACode → St → KC → KO) (c : ACode) (K : KC) : KC := fun e s => match e with
  | .goto l => match findL c l with
    | none => K (.goto l) s
    | some r => again (.scope c r) s K
  | .normal => K .normal s
  | .exit id => K (.exit id) s
  | .ret => K .ret s
noncomputable def stepK (T : Table) (cf : CF) (again : ACode → St → KC → KO) (c : ACode) : St → KC → KO :=
  ACode.rec (motive := fun _ => St → KC → KO)
    (fun s K => K .normal s)
    (fun ops s K => regK cf ops s.nx { s with nx := s.nx + ops.length } fun s' => K .normal s')
    (fun ops s K => dregK T cf ops s.nx { s with nx := s.nx + ops.length } fun ds s' => bif chkD ds ops ds then K .normal s' else none)
    (fun _ _ a b s K => a s (seqC b K))
    (fun c _ _ a b s K => condK (c.ev s.tm) (a s K) (b s K))
    (fun id _ c s K => c s (blockC id K))
    (fun c0 c s K => c s (loopC (again (.loop c0)) K))
    (fun id s K => K (.exit id) s)
    (fun c0 _ _ cur s K => cur s (scopeC again c0 K))
    (fun _ s K => K .normal s)
    (fun l s K => K (.goto l) s)
    (fun s K => K .ret s)
    c
noncomputable def execK (T : Table) (cf : CF) (n : Nat) : ACode → St → KC → KO :=
  Nat.rec (motive := fun _ => ACode → St → KC → KO) (fun _ _ _ => none) (fun _ ih => stepK T cf ih) n

/-! ### More fuel tells the same -/
theorem mapE {ex ex' : Exec} {f : AFun} (h : ∀ c s r, ex c s = some r → ex' c s = some r) {args : List AV} {H : Heap} {nx : Nat} {x : RK} (hx : runF ex f args H nx = some x) : runF ex' f args H nx = some x := by
  unfold runF at hx ⊢
  cases hc : (Nat.ble args.length f.ntmps && Nat.ble f.ntmps 4096) with
  | false => simp [hc] at hx
  | true =>
    simp only [hc, cond_true] at hx ⊢
    cases he : ex f.body ⟨padA args f.ntmps, H, nx⟩ with
    | none => simp [he] at hx
    | some y => rw [he] at hx; rw [h _ _ _ he]; exact hx
theorem callE {T : Table} {ex ex' : Exec} (h : ∀ c s r, ex c s = some r → ex' c s = some r) {id g : Nat} {args : List AV} {H : Heap} {nx : Nat} {x : RK} (hx : callF T ex id g args H nx = some x) : callF T ex' id g args H nx = some x := by
  unfold callF at hx ⊢
  split at hx
  · simp at hx
  · exact hx
  · rename_i f m hf
    cases ho : f.own with
    | true =>
      simp only [ho, cond_true] at hx ⊢
      split at hx
      · simp at hx
      · rename_i args' ha
        split at hx
        · exact hx
        · split at hx
          · simp at hx
          · rename_i r H2 n2 hr
            rw [mapE h hr]
            exact hx
    | false =>
      simp only [ho, cond_false] at hx ⊢
      split at hx
      · simp at hx
      · rename_i r H2 n2 hr
        rw [mapE h hr]
        exact hx
theorem opE {T : Table} {ex ex' : Exec} (h : ∀ c s r, ex c s = some r → ex' c s = some r) {id : Nat} {o : AOper} {s s' : St} (hx : opA T ex id o s = some s') : opA T ex' id o s = some s' := by
  unfold opA at hx ⊢
  cases hg : goes s.tm o with
  | false => simpa [hg] using hx
  | true =>
    simp only [hg, cond_true] at hx ⊢
    split at hx
    · simp at hx
    · exact hx
    · split at hx
      · simp at hx
      · rename_i e; rw [callE h e]; exact hx
theorem regE {T : Table} {ex ex' : Exec} (h : ∀ c s r, ex c s = some r → ex' c s = some r) {base : Nat} : ∀ {os : List AOper} {i : Nat} {s s' : St}, regOps T ex base os i s = some s' → regOps T ex' base os i s = some s'
  | [], i, s, s', hx => hx
  | o :: os, i, s, s', hx => by
    simp only [regOps] at hx ⊢
    cases ho : opA T ex (base + i) o s with
    | none => simp [ho] at hx
    | some s1 => simp only [ho] at hx; rw [opE h ho]; exact regE h hx
theorem dopE {T : Table} {ex ex' : Exec} (h : ∀ c s r, ex c s = some r → ex' c s = some r) {id : Nat} {o : AOper} {s : St} {d : DR} (hx : dopA T ex id o s = some d) : dopA T ex' id o s = some d := by
  unfold dopA at hx ⊢
  cases hg : goes s.tm o with
  | false => simpa [hg] using hx
  | true =>
    simp only [hg, cond_true] at hx ⊢
    split at hx
    · simp at hx
    · exact hx
    · split at hx
      · simp at hx
      · rename_i e; rw [callE h e]; exact hx
theorem dregE {T : Table} {ex ex' : Exec} (h : ∀ c s r, ex c s = some r → ex' c s = some r) {base : Nat} : ∀ {os : List AOper} {i : Nat} {s : St} {x : List DR × St}, dregOps T ex base os i s = some x → dregOps T ex' base os i s = some x
  | [], i, s, x, hx => hx
  | o :: os, i, s, x, hx => by
    simp only [dregOps] at hx ⊢
    cases ho : dopA T ex (base + i) o s with
    | none => simp [ho] at hx
    | some d =>
      simp only [ho] at hx; rw [dopE h ho]
      cases hr : dregOps T ex base os (i + 1) (dput s o.dst d) with
      | none => simp [hr] at hx
      | some y => simp only [hr] at hx; simp only [dregE h hr]; exact hx
theorem stepE {T : Table} {ex ex' : Exec} (h : ∀ c s r, ex c s = some r → ex' c s = some r) {c : ACode} {s : St} {x : AEx × St} (hx : step T ex c s = some x) : step T ex' c s = some x := by
  cases c with
  | region ops =>
    simp only [step, Option.map_eq_some_iff] at hx ⊢
    obtain ⟨a, h1, h2⟩ := hx
    exact ⟨a, regE h h1, h2⟩
  | dregion ops =>
    simp only [step] at hx ⊢
    split at hx
    · simp at hx
    · rename_i e; rw [dregE h e]; exact hx
  | seq a b =>
    simp only [step] at hx ⊢
    cases ha : ex a s with
    | none => simp [ha] at hx
    | some y =>
      obtain ⟨e, s1⟩ := y
      rw [ha] at hx; rw [h _ _ _ ha]
      cases e with
      | normal => exact h _ _ _ hx
      | _ => exact hx
  | cond c a b =>
    simp only [step] at hx ⊢
    split at hx
    · exact h _ _ _ hx
    · exact h _ _ _ hx
    · simp at hx
  | block id c =>
    simp only [step] at hx ⊢
    cases ha : ex c s with
    | none => simp [ha] at hx
    | some y => rw [ha] at hx; rw [h _ _ _ ha]; exact hx
  | loop c =>
    simp only [step] at hx ⊢
    cases ha : ex c s with
    | none => simp [ha] at hx
    | some y =>
      obtain ⟨e, s1⟩ := y
      rw [ha] at hx; rw [h _ _ _ ha]
      cases e with
      | normal => exact h _ _ _ hx
      | _ => exact hx
  | scope c cur =>
    simp only [step] at hx ⊢
    cases ha : ex cur s with
    | none => simp [ha] at hx
    | some y =>
      obtain ⟨e, s1⟩ := y
      rw [ha] at hx; rw [h _ _ _ ha]
      cases e with
      | goto l =>
        simp only at hx ⊢
        cases hf : findL c l with
        | none => rw [hf] at hx; exact hx
        | some r => rw [hf] at hx; exact h _ _ _ hx
      | _ => exact hx
  | _ => exact hx
theorem exec_succ {T : Table} : ∀ {n : Nat} {c : ACode} {s : St} {x : AEx × St}, exec T n c s = some x → exec T (n + 1) c s = some x
  | 0, c, s, x, h => by simp [exec] at h
  | n + 1, c, s, x, h => stepE (fun c s r h => exec_succ h) h
theorem exec_le {T : Table} {n m : Nat} (hnm : n ≤ m) {c : ACode} {s : St} {x : AEx × St} (h : exec T n c s = some x) : exec T m c s = some x := by
  induction hnm with
  | refl => exact h
  | step _ ih => exact exec_succ ih

end Go.Am

/- What is read off is what the interpreter does. -/
namespace Go.Am
set_option autoImplicit false
set_option linter.unusedVariables false
set_option linter.unusedSimpArgs false

/-- A call's answer is the interpreter's, with enough rounds. -/
def CFok (T : Table) (cf : CF) : Prop := ∀ id g args H nx x, cf id g args H nx = some x → ∃ N, callF T (exec T N) id g args H nx = some x

theorem call_le {T : Table} {n m : Nat} (hnm : n ≤ m) {id g : Nat} {args : List AV} {H : Heap} {nx : Nat} {x : RK} (h : callF T (exec T n) id g args H nx = some x) : callF T (exec T m) id g args H nx = some x :=
  callE (fun _ _ _ h => exec_le hnm h) h

theorem aopK_run {T : Table} {cf : CF} (hcf : CFok T cf) {o : AOper} {s : St} {id : Nat} (hg : goes s.tm o = true) {K : AV → Heap → Nat → KO} {r : RK} (h : aopK cf o.op s.tm id s.H s.nx K = some r) :
    ∃ N a H nx, opA T (exec T N) id o s = some (({ s with H := H, nx := nx } : St).put o a) ∧ K a H nx = some r := by
  rcases aopK_ok h with ⟨a, H', h1, h2⟩ | ⟨g, args, a, H', nx', h1, h2, h3⟩
  · exact ⟨0, a, H', s.nx, by simp only [opA, hg, cond_true, h1], h2⟩
  · obtain ⟨N, hN⟩ := hcf _ _ _ _ _ _ h2
    exact ⟨N, a, H', nx', by simp only [opA, hg, cond_true, h1, hN], h3⟩

theorem goes_guard {tm : TM} {o : AOper} {t : Nat} {want : Bool} (h : o.guard = some (t, want)) {o' : KO} {H : Heap} {nx : Nat} {K : AV → Heap → Nat → KO} {r : RK} (hk : guardK (tget tm t) want o' H nx K = some r) :
    (goes tm o = true ∧ callK o' K = some r) ∨ (goes tm o = false ∧ K aundef H nx = some r) := by
  unfold guardK at hk
  unfold goes
  rw [h]
  simp only
  split at hk
  · rename_i b e
    rw [e]
    simp only
    cases hb : (b == want) with
    | true => simp only [hb, cond_true] at hk; exact .inl ⟨rfl, hk⟩
    | false => simp only [hb, cond_false] at hk; exact .inr ⟨rfl, hk⟩
  · rename_i e
    refine .inr ⟨?_, hk⟩
    split
    · rename_i b e'; exact absurd e' (e b)
    · rfl

theorem opK_run {T : Table} {cf : CF} (hcf : CFok T cf) {o : AOper} {s : St} {id : Nat} {K : St → KO} {r : RK} (h : opK cf id o s K = some r) : ∃ N s', opA T (exec T N) id o s = some s' ∧ K s' = some r := by
  unfold opK at h
  split at h
  · rename_i hg
    have hg' : goes s.tm o = true := by unfold goes; rw [hg]
    obtain ⟨N, a, H, nx, h1, h2⟩ := aopK_run hcf hg' h
    exact ⟨N, _, h1, h2⟩
  · rename_i t want hg
    rcases goes_guard hg h with ⟨h1, h2⟩ | ⟨h1, h2⟩
    · obtain ⟨a, H, nx, h3, h4⟩ := callK_some h2
      obtain ⟨N, a', H', nx', h5, h6⟩ := aopK_run hcf h1 h3
      simp only [Option.some.injEq, Prod.mk.injEq] at h6
      obtain ⟨rfl, rfl, rfl⟩ := h6
      exact ⟨N, _, h5, h4⟩
    · exact ⟨0, _, by simp only [opA, h1, cond_false], h2⟩

theorem regK_run {T : Table} {cf : CF} (hcf : CFok T cf) {base : Nat} : ∀ {os : List AOper} {i : Nat} {s : St} {K : St → KO} {r : RK}, regK cf os (base + i) s K = some r → ∃ N s', regOps T (exec T N) base os i s = some s' ∧ K s' = some r
  | [], i, s, K, r, h => ⟨0, s, rfl, h⟩
  | o :: os, i, s, K, r, h => by
    have h' : opK cf (base + i) o s (fun s' => regK cf os (base + (i + 1)) s' K) = some r := h
    obtain ⟨N1, s1, h1, h2⟩ := opK_run hcf h'
    obtain ⟨N2, s2, h3, h4⟩ := regK_run hcf h2
    refine ⟨max N1 N2, s2, ?_, h4⟩
    simp only [regOps, opE (fun _ _ _ h => exec_le (Nat.le_max_left N1 N2) h) h1]
    exact regE (fun _ _ _ h => exec_le (Nat.le_max_right N1 N2) h) h3

theorem pureK_swap {o : Option AV} {K K1 : AV → KO} {x r : RK} (h : pureK o K = some x) (hk : ∀ a, o = some a → K a = some x → K1 a = some r) : pureK o K1 = some r := by
  cases o with
  | none => simp [pureK] at h
  | some a => exact hk a rfl h
theorem aopK_swap {cf : CF} {op : AOp} {tm : TM} {id : Nat} {H : Heap} {nx : Nat} {a : AV} {H2 : Heap} {n2 : Nat} {K : AV → Heap → Nat → KO} {r : RK} (h : aopK cf op tm id H nx (fun a H nx => some (a, H, nx)) = some (a, H2, n2)) (hk : K a H2 n2 = some r) : aopK cf op tm id H nx K = some r := by
  have p : ∀ {o : Option AV}, pureK o (fun v => some (v, H, nx)) = some (a, H2, n2) → pureK o (fun v => K v H nx) = some r := by
    intro o h
    cases o with
    | none => simp [pureK] at h
    | some v => simp only [pureK, Option.some.injEq, Prod.mk.injEq] at h ⊢; obtain ⟨rfl, rfl, rfl⟩ := h; exact hk
  have hp : ∀ {o : Option (AV × Heap)}, heapK o (fun v H' => some (v, H', nx)) = some (a, H2, n2) → heapK o (fun v H' => K v H' nx) = some r := by
    intro o h
    cases o with
    | none => simp [heapK] at h
    | some v => simp only [heapK, Option.some.injEq, Prod.mk.injEq] at h ⊢; obtain ⟨rfl, rfl, rfl⟩ := h; exact hk
  have d : ∀ {v : AV} {H' : Heap}, (some (v, H', nx) : KO) = some (a, H2, n2) → K v H' nx = some r := by
    intro v H' h
    simp only [Option.some.injEq, Prod.mk.injEq] at h; obtain ⟨rfl, rfl, rfl⟩ := h; exact hk
  have c : ∀ {o : KO}, callK o (fun v H' n' => some (v, H', n')) = some (a, H2, n2) → callK o K = some r := by
    intro o h
    cases o with
    | none => simp [callK] at h
    | some v => simp only [callK, Option.some.injEq, Prod.mk.injEq] at h ⊢; obtain ⟨h1, h2, h3⟩ := h; rw [h1, h2, h3]; exact hk
  cases op with
  | move x => exact d h
  | alloc ty zero => exact d h
  | mkfn g caps => exact d h
  | box ty sz x =>
    simp only [aopK, cellsK] at h ⊢
    split at h
    · simp at h
    · exact d h
  | store sz a' x =>
    simp only [aopK] at h ⊢
    split at h
    · simp at h
    · exact d h
  | call g args => exact c h
  | callv f args =>
    simp only [aopK, callvK] at h ⊢
    split at h
    · exact c h
    · simp at h
  | append ty esz bytes s x => exact hp h
  | bad => simp [aopK, valOf, aop, heapK] at h
  | _ => first | exact p h | exact hp h

theorem dopK_run {T : Table} {cf : CF} (hcf : CFok T cf) {o : AOper} {s : St} {id : Nat} {K : DR → KO} {r : RK} (h : dopK T cf id o s K = some r) : ∃ N d, dopA T (exec T N) id o s = some d ∧ K d = some r := by
  have key : goes s.tm o = true → aopK cf o.op s.tm id (hin (touchA s.tm s.H o.op) s.H) s.nx (fun a H nx => K (drOf T o.op (touchA s.tm s.H o.op) s.nx a H nx)) = some r → ∃ N d, dopA T (exec T N) id o s = some d ∧ K d = some r := by
    intro hg h
    rcases aopK_ok h with ⟨a, H', h1, h2⟩ | ⟨g, args, a, H', nx', h1, h2, h3⟩
    · refine ⟨0, drOf T o.op (touchA s.tm s.H o.op) s.nx a H' s.nx, ?_, h2⟩
      simp only [dopA, hg, cond_true, h1, drOf]
      cases AOp.makes T o.op <;> cases AOp.numbers T o.op <;> rfl
    · obtain ⟨N, hN⟩ := hcf _ _ _ _ _ _ h2
      refine ⟨N, drOf T o.op (touchA s.tm s.H o.op) s.nx a H' nx', ?_, h3⟩
      simp only [dopA, hg, cond_true, h1, hN, drOf]
  unfold dopK at h
  split at h
  · rename_i hg
    exact key (by unfold goes; rw [hg]) h
  · rename_i t want hgd
    obtain ⟨a, H2, n2, h1, h2⟩ := callK_some h
    have hgo : goes s.tm o = (match tget s.tm t with
        | .v (.bool b) => b == want
        | _ => false) := by simp only [goes, hgd]; rfl
    have gtrue : goes s.tm o = true → aopK cf o.op s.tm id (hin (touchA s.tm s.H o.op) s.H) s.nx (fun a H nx => some (a, H, nx)) = some (a, H2, n2) → ∃ N d, dopA T (exec T N) id o s = some d ∧ K d = some r := by
      intro hg h3
      refine key hg ?_
      have h4 : ∀ {o' : AOp} {K1 : AV → Heap → Nat → KO}, aopK cf o' s.tm id (hin (touchA s.tm s.H o.op) s.H) s.nx (fun a H nx => some (a, H, nx)) = some (a, H2, n2) → K1 a H2 n2 = some r → aopK cf o' s.tm id (hin (touchA s.tm s.H o.op) s.H) s.nx K1 = some r := by
        intro o' K1 h5 h6
        exact aopK_swap h5 h6
      refine h4 h3 ?_
      rw [hg] at h2
      unfold drG at h2
      unfold drOf
      cases hmk : AOp.makes T o.op with
      | true => simpa [hmk] using h2
      | false => simpa [hmk] using h2
    have gfalse : goes s.tm o = false → (a, H2, n2) = ((aundef, [], 0) : RK) → ∃ N d, dopA T (exec T N) id o s = some d ∧ K d = some r := by
      intro hg he
      simp only [Prod.mk.injEq] at he
      obtain ⟨rfl, rfl, rfl⟩ := he
      refine ⟨0, ⟨aundef, [], [], [], s.nx⟩, by simp only [dopA, hg, cond_false], ?_⟩
      rw [hg] at h2
      unfold drG at h2
      cases hmk : AOp.makes T o.op with
      | true => simpa [hmk] using h2
      | false => simpa [hmk] using h2
    unfold gK at h1
    split at h1
    · rename_i b e
      rw [e] at hgo
      simp only at hgo
      cases hb : (b == want) with
      | true => rw [hb, cond_true] at h1; exact gtrue (hgo.trans hb) h1
      | false => rw [hb, cond_false] at h1; exact gfalse (hgo.trans hb) (by simpa using h1.symm)
    · rename_i e
      refine gfalse ?_ (by simpa using h1.symm)
      rw [hgo]
      split
      · rename_i b e'; exact absurd e' (e b)
      · rfl

theorem dregK_run {T : Table} {cf : CF} (hcf : CFok T cf) {base : Nat} : ∀ {os : List AOper} {i : Nat} {s : St} {K : List DR → St → KO} {r : RK}, dregK T cf os (base + i) s K = some r → ∃ N ds s', dregOps T (exec T N) base os i s = some (ds, s') ∧ K ds s' = some r
  | [], i, s, K, r, h => ⟨0, [], s, rfl, h⟩
  | o :: os, i, s, K, r, h => by
    have h' : dopK T cf (base + i) o s (fun d => dregK T cf os (base + (i + 1)) (dput s o.dst d) fun ds s' => K (d :: ds) s') = some r := h
    obtain ⟨N1, d, h1, h2⟩ := dopK_run hcf h'
    obtain ⟨N2, ds, s2, h3, h4⟩ := dregK_run hcf h2
    refine ⟨max N1 N2, d :: ds, s2, ?_, h4⟩
    simp only [dregOps, dopE (fun _ _ _ h => exec_le (Nat.le_max_left N1 N2) h) h1, dregE (fun _ _ _ h => exec_le (Nat.le_max_right N1 N2) h) h3]

/-- Code does it, with enough rounds. -/
def RunsK (T : Table) (m : ACode → St → KC → KO) : Prop := ∀ c s K r, m c s K = some r → ∃ N e s', exec T N c s = some (e, s') ∧ K e s' = some r

theorem step_run {T : Table} {cf : CF} (hcf : CFok T cf) {again : ACode → St → KC → KO} (hag : RunsK T again) : RunsK T (stepK T cf again) := by
  intro c
  induction c with
  | skip => intro s K r h; exact ⟨1, .normal, s, rfl, h⟩
  | region ops =>
    intro s K r h
    have h' : regK cf ops (s.nx + 0) { s with nx := s.nx + ops.length } (fun s' => K .normal s') = some r := h
    obtain ⟨N, s', h1, h2⟩ := regK_run hcf h'
    exact ⟨N + 1, .normal, s', by simp only [exec, step, h1]; rfl, h2⟩
  | dregion ops =>
    intro s K r h
    have h' : dregK T cf ops (s.nx + 0) { s with nx := s.nx + ops.length } (fun ds s' => bif chkD ds ops ds then K .normal s' else none) = some r := h
    obtain ⟨N, ds, s', h1, h2⟩ := dregK_run hcf h'
    cases hc : chkD ds ops ds with
    | false => rw [hc, cond_false] at h2; simp at h2
    | true =>
      rw [hc, cond_true] at h2
      exact ⟨N + 1, .normal, s', by simp only [exec, step, h1, hc, cond_true], h2⟩
  | seq a b iha ihb =>
    intro s K r h
    obtain ⟨N1, e, s1, h1, h2⟩ := iha s (seqC (stepK T cf again b) K) r h
    cases e with
    | normal =>
      obtain ⟨N2, e2, s2, h3, h4⟩ := ihb s1 K r h2
      refine ⟨max N1 N2 + 1, e2, s2, ?_, h4⟩
      simp only [exec, step, exec_le (Nat.le_max_left N1 N2) h1, exec_le (Nat.le_max_right N1 N2) h3]
    | exit id => exact ⟨N1 + 1, _, s1, by simp only [exec, step, h1], h2⟩
    | goto l => exact ⟨N1 + 1, _, s1, by simp only [exec, step, h1], h2⟩
    | ret => exact ⟨N1 + 1, _, s1, by simp only [exec, step, h1], h2⟩
  | cond c a b iha ihb =>
    intro s K r h
    have h' : condK (c.ev s.tm) (stepK T cf again a s K) (stepK T cf again b s K) = some r := h
    unfold condK at h'
    split at h'
    · rename_i t ht
      cases t with
      | true =>
        obtain ⟨N, e, s1, h1, h2⟩ := iha s K r h'
        exact ⟨N + 1, e, s1, by simp only [exec, step, ht, h1], h2⟩
      | false =>
        obtain ⟨N, e, s1, h1, h2⟩ := ihb s K r h'
        exact ⟨N + 1, e, s1, by simp only [exec, step, ht, h1], h2⟩
    · simp at h'
  | block id c ih =>
    intro s K r h
    obtain ⟨N, e, s1, h1, h2⟩ := ih s (blockC id K) r h
    cases e with
    | exit id' =>
      simp only [blockC] at h2
      cases hb : Nat.beq id' id with
      | true => rw [hb, cond_true] at h2; exact ⟨N + 1, _, s1, by simp only [exec, step, h1, hb, cond_true], h2⟩
      | false => rw [hb, cond_false] at h2; exact ⟨N + 1, _, s1, by simp only [exec, step, h1, hb, cond_false], h2⟩
    | normal => exact ⟨N + 1, _, s1, by simp only [exec, step, h1], h2⟩
    | goto l => exact ⟨N + 1, _, s1, by simp only [exec, step, h1], h2⟩
    | ret => exact ⟨N + 1, _, s1, by simp only [exec, step, h1], h2⟩
  | loop c ih =>
    intro s K r h
    obtain ⟨N1, e, s1, h1, h2⟩ := ih s (loopC (again (.loop c)) K) r h
    cases e with
    | normal =>
      obtain ⟨N2, e2, s2, h3, h4⟩ := hag _ _ _ _ h2
      refine ⟨max N1 N2 + 1, e2, s2, ?_, h4⟩
      simp only [exec, step, exec_le (Nat.le_max_left N1 N2) h1, exec_le (Nat.le_max_right N1 N2) h3]
    | exit id => exact ⟨N1 + 1, _, s1, by simp only [exec, step, h1], h2⟩
    | goto l => exact ⟨N1 + 1, _, s1, by simp only [exec, step, h1], h2⟩
    | ret => exact ⟨N1 + 1, _, s1, by simp only [exec, step, h1], h2⟩
  | exit id => intro s K r h; exact ⟨1, _, s, rfl, h⟩
  | scope c cur ihc ihcur =>
    intro s K r h
    obtain ⟨N1, e, s1, h1, h2⟩ := ihcur s (scopeC again c K) r h
    cases e with
    | goto l =>
      simp only [scopeC] at h2
      cases hf : findL c l with
      | none => rw [hf] at h2; exact ⟨N1 + 1, _, s1, by simp only [exec, step, h1, hf], h2⟩
      | some c' =>
        rw [hf] at h2
        obtain ⟨N2, e2, s2, h3, h4⟩ := hag _ _ _ _ h2
        refine ⟨max N1 N2 + 1, e2, s2, ?_, h4⟩
        simp only [exec, step, exec_le (Nat.le_max_left N1 N2) h1, hf, exec_le (Nat.le_max_right N1 N2) h3]
    | normal => exact ⟨N1 + 1, _, s1, by simp only [exec, step, h1], h2⟩
    | exit id => exact ⟨N1 + 1, _, s1, by simp only [exec, step, h1], h2⟩
    | ret => exact ⟨N1 + 1, _, s1, by simp only [exec, step, h1], h2⟩
  | label l => intro s K r h; exact ⟨1, _, s, rfl, h⟩
  | goto l => intro s K r h; exact ⟨1, _, s, rfl, h⟩
  | ret => intro s K r h; exact ⟨1, _, s, rfl, h⟩

theorem execK_run {T : Table} {cf : CF} (hcf : CFok T cf) : ∀ n, RunsK T (execK T cf n)
  | 0 => fun c s K r h => by simp [execK] at h
  | n + 1 => step_run hcf (execK_run hcf n)

/-- A function's end. -/
def finK (rs : List ARes) : KC := fun e s => match e with
  | .normal => match resultsA s.tm s.H rs with
    | none => none
    | some r => some (r, s.H, s.nx)
  | .ret => match resultsA s.tm s.H rs with
    | none => none
    | some r => some (r, s.H, s.nx)
  | _ => none
/-- A function's run. -/
noncomputable def runK (T : Table) (cf : CF) (n : Nat) (f : AFun) (args : List AV) (H : Heap) (nx : Nat) : KO :=
  bif Nat.ble args.length f.ntmps && Nat.ble f.ntmps 4096 then execK T cf n f.body ⟨padA args f.ntmps, H, nx⟩ (finK f.results) else none
theorem runK_run {T : Table} {cf : CF} (hcf : CFok T cf) {n : Nat} {f : AFun} {args : List AV} {H : Heap} {nx : Nat} {x : RK} (h : runK T cf n f args H nx = some x) : ∃ N, runF (exec T N) f args H nx = some x := by
  unfold runK at h
  cases hc : (Nat.ble args.length f.ntmps && Nat.ble f.ntmps 4096) with
  | false => simp [hc] at h
  | true =>
    rw [hc, cond_true] at h
    obtain ⟨N, e, s, h1, h2⟩ := execK_run hcf n _ _ _ _ h
    refine ⟨N, ?_⟩
    unfold runF
    rw [hc, cond_true, h1]
    cases e with
    | normal => exact h2
    | ret => exact h2
    | exit id => simp [finK] at h2
    | goto l => simp [finK] at h2

/-- Calls by the interpreter itself. -/
theorem cfok_call (T : Table) (n : Nat) : CFok T (callF T (exec T n)) := fun id g args H nx x h => ⟨n, h⟩

/-- The end of a function of its own memory: its answer as a tree. -/
def finO (b : Bool) (rs : List ARes) : KC := fun e s => match e with
  | .normal => match resultsA s.tm s.H rs with
    | none => none
    | some r => match frz b s.H depthA r with
      | none => none
      | some r' => some (r', [], 0)
  | .ret => match resultsA s.tm s.H rs with
    | none => none
    | some r => match frz b s.H depthA r with
      | none => none
      | some r' => some (r', [], 0)
  | _ => none
noncomputable def ownK (T : Table) (cf : CF) (n : Nat) (g : Nat) (b : Bool) (args : List AV) : KO :=
  match T g with
  | some (.code f _) => bif Nat.ble args.length f.ntmps && Nat.ble f.ntmps 4096 then execK T cf n f.body ⟨padA args f.ntmps, [], 0⟩ (finO b f.results) else none
  | _ => none
theorem ownK_run {T : Table} {cf : CF} (hcf : CFok T cf) {n g : Nat} {b : Bool} {args : List AV} {r : AV} {H : Heap} {nx : Nat} (h : ownK T cf n g b args = some (r, H, nx)) : ∃ N, ownA T N g b args = some r := by
  unfold ownK at h
  unfold ownA
  split at h
  · rename_i f m hf
    cases hc : (Nat.ble args.length f.ntmps && Nat.ble f.ntmps 4096) with
    | false => rw [hc, cond_false] at h; simp at h
    | true =>
      rw [hc, cond_true] at h
      obtain ⟨N, e, s, h1, h2⟩ := execK_run hcf n _ _ _ _ h
      refine ⟨N, ?_⟩
      have key : ∀ {rs}, (match resultsA s.tm s.H rs with
          | none => none
          | some r => match frz b s.H depthA r with
            | none => none
            | some r' => (some (r', [], 0) : KO)) = some (r, H, nx) → ∃ r0, resultsA s.tm s.H rs = some r0 ∧ frz b s.H depthA r0 = some r := by
        intro rs h
        split at h
        · simp at h
        · rename_i r0 e0
          split at h
          · simp at h
          · rename_i r' e'
            simp only [Option.some.injEq, Prod.mk.injEq] at h
            exact ⟨r0, e0, by rw [e', h.1]⟩
      simp only [hf, runF, hc, cond_true, h1]
      cases e with
      | normal => obtain ⟨r0, k1, k2⟩ := key h2; simp only [k1, k2]
      | ret => obtain ⟨r0, k1, k2⟩ := key h2; simp only [k1, k2]
      | exit id => simp [finO] at h2
      | goto l => simp [finO] at h2
  · simp at h

/-- Calls that are answered by what is known alone. -/
def cfM (T : Table) : CF := fun _ g args H nx => match T g with
  | some (.code f m) => bif f.own then (match mapO (frz false H depthA) args with
    | none => none
    | some args' => match m (live.liveL args) args' with
      | none => none
      | some r => some (r, H, nx)) else none
  | _ => none
theorem cfM_ok (T : Table) : CFok T (cfM T) := by
  intro id g args H nx x h
  refine ⟨0, ?_⟩
  unfold cfM at h
  unfold callF
  split at h
  · rename_i f m hf
    cases ho : f.own with
    | false => simp [ho] at h
    | true =>
      simp only [ho, cond_true] at h
      simp only [hf, ho, cond_true]
      split at h
      · simp at h
      · rename_i args' ha
        simp only [ha]
        split at h
        · simp at h
        · rename_i r hm
          simp only [hm]
          exact h
  · simp at h

/-- A model of functions, one behind the other: each may lean on those ahead of it. -/
theorem memOK_K {P : Program} (hm : P.follows .mixedOrders = true) {T : Table} {mm : Nat → Bool → List AV → Option AV} (h : TabOK P (compC P (withM T mm)) (withM T mm)) {n g : Nat} {b : Bool} {args : List AV} {r : AV} {H : Heap} {nx : Nat}
    (hr : ownK (withM T mm) (cfM (withM T mm)) n g b args = some (r, H, nx)) : ∀ f m, T g = some (.code f m) → MemOK P (compC P T) f b args r := by
  obtain ⟨N, hN⟩ := ownK_run (cfM_ok _) hr
  exact memOK_with hm h hN

end Go.Am

/- Parts of code; loops. -/
namespace Go.Am
set_option autoImplicit false
set_option linter.unusedVariables false

/-- A part of code: 1 the left, 2 the right. -/
def ACode.part (c : ACode) : List Nat → ACode
  | [] => c
  | i :: r => match c with
    | .seq a b => (bif Nat.beq i 1 then a else b).part r
    | .cond _ a b => (bif Nat.beq i 1 then a else b).part r
    | .block _ a => a.part r
    | .loop a => a.part r
    | .scope a b => (bif Nat.beq i 1 then a else b).part r
    | _ => c
def dK (d : DR) (K : DR → KO) : KO := K d
def gets (x : AV) (want : Bool) : Bool := match x with
  | .v (.bool b) => b == want
  | _ => false
theorem block_exit (id : Nat) (f : St → KC → KO) (K : KC) (s : St) : blockC id (seqC f K) (.exit id) s = f s K := by simp [blockC, seqC, Nat.beq_refl]
theorem execK_loop (T : Table) (cf : CF) (k : Nat) (c : ACode) (s : St) (K : KC) : execK T cf (k + 1) (.loop c) s K = stepK T cf (execK T cf k) c s (loopC (execK T cf k (.loop c)) K) := rfl
theorem execK_scope (T : Table) (cf : CF) (k : Nat) (c r : ACode) (s : St) (K : KC) : execK T cf (k + 1) (.scope c r) s K = stepK T cf (execK T cf k) r s (scopeC (execK T cf k) c K) := rfl
end Go.Am

/- Models, one above the other. -/
namespace Go.Am
set_option autoImplicit false
set_option linter.unusedVariables false
set_option linter.unusedSimpArgs false

theorem drOf_with (T : Table) (mm : Nat → Bool → List AV → Option AV) (op : AOp) (t : List Nat) (nx : Nat) (a : AV) (H2 : Heap) (n2 : Nat) : drOf (withM T mm) op t nx a H2 n2 = drOf T op t nx a H2 n2 := by
  unfold drOf
  rw [makes_congr (ownG_with T mm), numbers_congr (inG_with T mm)]
theorem drG_with (T : Table) (mm : Nat → Bool → List AV → Option AV) (g : Bool) (op : AOp) (t : List Nat) (nx : Nat) (a : AV) (H2 : Heap) (n2 : Nat) : drG g (withM T mm) op t nx a H2 n2 = drG g T op t nx a H2 n2 := by
  unfold drG
  rw [makes_congr (ownG_with T mm), numbers_congr (inG_with T mm)]
theorem dopK_with (T : Table) (mm : Nat → Bool → List AV → Option AV) (cf : CF) (id : Nat) (o : AOper) (s : St) (K : DR → KO) : dopK (withM T mm) cf id o s K = dopK T cf id o s K := by
  unfold dopK
  simp only [drOf_with, drG_with]
theorem dregK_with (T : Table) (mm : Nat → Bool → List AV → Option AV) (cf : CF) : ∀ (os : List AOper) (id : Nat) (s : St) (K : List DR → St → KO), dregK (withM T mm) cf os id s K = dregK T cf os id s K
  | [], id, s, K => rfl
  | o :: os, id, s, K => by
    show dopK (withM T mm) cf id o s (fun d => dregK (withM T mm) cf os (id + 1) (dput s o.dst d) fun ds s' => K (d :: ds) s') = dopK T cf id o s (fun d => dregK T cf os (id + 1) (dput s o.dst d) fun ds s' => K (d :: ds) s')
    rw [dopK_with]
    congr 1
    funext d
    exact dregK_with T mm cf os _ _ _
theorem stepK_with (T : Table) (mm : Nat → Bool → List AV → Option AV) (cf : CF) (ag : ACode → St → KC → KO) (c : ACode) : stepK (withM T mm) cf ag c = stepK T cf ag c := by
  induction c with
  | dregion ops => funext s K; exact dregK_with T mm cf ops _ _ _
  | seq a b iha ihb =>
    funext s K
    show stepK (withM T mm) cf ag a s (seqC (stepK (withM T mm) cf ag b) K) = stepK T cf ag a s (seqC (stepK T cf ag b) K)
    rw [iha, ihb]
  | cond c a b iha ihb =>
    funext s K
    show condK (c.ev s.tm) (stepK (withM T mm) cf ag a s K) (stepK (withM T mm) cf ag b s K) = _
    rw [iha, ihb]; rfl
  | block id c ih =>
    funext s K
    show stepK (withM T mm) cf ag c s (blockC id K) = _
    rw [ih]; rfl
  | loop c ih =>
    funext s K
    show stepK (withM T mm) cf ag c s (loopC (ag (.loop c)) K) = _
    rw [ih]; rfl
  | scope c cur ihc ihcur =>
    funext s K
    show stepK (withM T mm) cf ag cur s (scopeC ag c K) = _
    rw [ihcur]; rfl
  | _ => rfl
theorem execK_with (T : Table) (mm : Nat → Bool → List AV → Option AV) (cf : CF) : ∀ n, execK (withM T mm) cf n = execK T cf n
  | 0 => rfl
  | n + 1 => by
    show stepK (withM T mm) cf (execK (withM T mm) cf n) = stepK T cf (execK T cf n)
    rw [execK_with T mm cf n]
    funext c
    exact stepK_with T mm cf _ c
theorem ownK_with (T : Table) (mm : Nat → Bool → List AV → Option AV) (cf : CF) (n g : Nat) (b : Bool) (args : List AV) : ownK (withM T mm) cf n g b args = ownK T cf n g b args := by
  unfold ownK
  rw [execK_with]
  unfold withM
  cases T g with
  | none => rfl
  | some e => cases e <;> rfl

/-- All that a model tells is so. -/
def MM (P : Program) (T : Table) (mm : Nat → Bool → List AV → Option AV) : Prop := ∀ g f m0, T g = some (.code f m0) → ∀ b args r, mm g b args = some r → MemOK P (compC P T) f b args r
def mm0 : Nat → Bool → List AV → Option AV := fun _ _ _ => none
theorem MM.zero (P : Program) (T : Table) : MM P T mm0 := fun g f m0 h b args r hr => by simp [mm0] at hr
theorem MM.tab {P : Program} {T : Table} {mm : Nat → Bool → List AV → Option AV} (h : MM P T mm) (hT : TabOK P (compC P T) T) : TabOK P (compC P (withM T mm)) (withM T mm) := tabOK_with hT h
def mmC (g0 : Nat) (m0 : Bool → List AV → Option AV) (mm : Nat → Bool → List AV → Option AV) : Nat → Bool → List AV → Option AV := fun g => bif Nat.beq g g0 then m0 else mm g
/-- What a model tells, the code tells, where calls are answered by models. -/
def Told (T : Table) (mm : Nat → Bool → List AV → Option AV) (g0 : Nat) (m0 : Bool → List AV → Option AV) : Prop := ∀ b args r, m0 b args = some r → ∃ n H nx, ownK T (cfM (withM T mm)) n g0 b args = some (r, H, nx)
theorem MM.cons {P : Program} (hmix : P.follows .mixedOrders = true) {T : Table} (hT : TabOK P (compC P T) T) {mm : Nat → Bool → List AV → Option AV} (h : MM P T mm) {g0 : Nat} {m0 : Bool → List AV → Option AV} (hm : Told T mm g0 m0) : MM P T (mmC g0 m0 mm) := by
  intro g f m1 hg b args r hr
  unfold mmC at hr
  cases hb : Nat.beq g g0 with
  | false => rw [hb, cond_false] at hr; exact h g f m1 hg b args r hr
  | true =>
    rw [hb, cond_true] at hr
    have : g = g0 := Nat.eq_of_beq_eq_true hb
    subst this
    obtain ⟨n, H, nx, hn⟩ := hm b args r hr
    rw [← ownK_with T mm] at hn
    exact memOK_K hmix (h.tab hT) hn f m1 hg

noncomputable def mmOr (m1 m2 : Nat → Bool → List AV → Option AV) : Nat → Bool → List AV → Option AV := fun g b args => Option.rec (motive := fun _ => Option AV) (m2 g b args) (fun r => some r) (m1 g b args)
theorem MM.or {P : Program} {T : Table} {m1 m2 : Nat → Bool → List AV → Option AV} (h1 : MM P T m1) (h2 : MM P T m2) : MM P T (mmOr m1 m2) := by
  intro g f m0 hg b args r hr
  unfold mmOr at hr
  cases h : m1 g b args with
  | none => rw [h] at hr; exact h2 g f m0 hg b args r hr
  | some x => rw [h] at hr; simp only [Option.some.injEq] at hr; subst hr; exact h1 g f m0 hg b args _ h
noncomputable def mmFor (gs : List Nat) (m : Nat → Bool → List AV → Option AV) : Nat → Bool → List AV → Option AV := fun g b args => Bool.rec (motive := fun _ => Option AV) none (m g b args) (memF g gs)
theorem MM.for {P : Program} {T : Table} {gs : List Nat} {m : Nat → Bool → List AV → Option AV} (h : MM P T m) : MM P T (mmFor gs m) := by
  intro g f m0 hg b args r hr
  unfold mmFor at hr
  cases hm : memF g gs with
  | false => rw [hm] at hr; simp at hr
  | true => rw [hm] at hr; exact h g f m0 hg b args r hr
theorem MM.look {P : Program} {T : Table} {l : List Known} (h : AllK T (MemOK P (compC P T)) l) : MM P T (lookM l) := fun g f m0 hg b args r hr => h.mem (lookM_mem hr) f m0 hg
/-- Rows, one behind the other. -/
noncomputable def catR (l : List (List AV)) : List AV := List.rec (motive := fun _ => List AV) [] (fun a _ ih => appA a ih) l

/-- Does a run tell true? -/
def isTK : KO → Bool
  | some (.v (.bool b), _) => b
  | _ => false
theorem ranK {T : Table} {mm : Nat → Bool → List AV → Option AV} {cf : CF} (hcf : CFok (withM T mm) cf) {n g : Nat} {args : List AV} (h : isTK (ownK T cf n g false args) = true) : ∃ N, isT (runA (withM T mm) N g args) = true := by
  cases hr : ownK T cf n g false args with
  | none => rw [hr] at h; simp [isTK] at h
  | some x =>
    obtain ⟨r, H, nx⟩ := x
    have hr' := hr
    rw [← ownK_with T mm] at hr'
    obtain ⟨N, hN⟩ := ownK_run hcf hr'
    refine ⟨N, ?_⟩
    have : runA (withM T mm) N g args = ownA (withM T mm) N g false args := by unfold runA ownA; rfl
    rw [this, hN]
    rw [hr] at h
    cases r with
    | v x => cases x <;> exact h
    | _ => exact h

/-! ### What operations tell of numbers and bools -/
abbrev I (n : Int) : AV := .v (.int .i64 n)
abbrev B (b : Bool) : AV := .v (.bool b)
theorem pureK_some' (a : AV) (K : AV → KO) : pureK (some a) K = K a := rfl
theorem callK_some' (a : AV) (H : Heap) (nx : Nat) (K : AV → Heap → Nat → KO) : callK (some (a, H, nx)) K = K a H nx := rfl
theorem heapK_some' (a : AV) (H : Heap) (K : AV → Heap → KO) : heapK (some (a, H)) K = K a H := rfl
theorem cellsK_some' (a : List AV) (K : List AV → KO) : cellsK (some a) K = K a := rfl
theorem condK_b (t : Bool) (a b : KO) : condK (B t) a b = bif t then a else b := rfl
theorem gK_t (o : KO) : gK (B true) true o = o := rfl
theorem vlss (a b : Int) : vbin .lss (I a) (I b) = some (B (ltF a b)) := by rw [ltF_eq]; rfl
theorem vadd (a b : Int) : vbin .add (I a) (I b) = some (I (IntKind.i64.wrap (a + b))) := rfl
theorem veql (a b : Int) : vbin .eql (I a) (I b) = some (B (eqF a b)) := by rw [eqF_eq]; rfl
theorem ltN (a b : Nat) : ltF (Int.ofNat a) (Int.ofNat b) = Nat.blt a b := rfl
theorem wrap_id {n : Int} (h0 : -9223372036854775808 ≤ n) (h1 : n < 9223372036854775808) : IntKind.i64.wrap n = n := by
  rw [wrap64]
  split <;> omega
theorem wrapU_id {n : Nat} (h1 : n < 18446744073709551616) : IntKind.u64.wrap (Int.ofNat n) = Int.ofNat n := by
  rw [wrapU .u64 rfl n]
  show Int.ofNat (n % 18446744073709551616) = _
  rw [Nat.mod_eq_of_lt h1]
theorem toU {n : Nat} (h : n < 9223372036854775808) : vconv .u64 (I (Int.ofNat n)) = some (.v (.int .u64 (Int.ofNat n))) := by
  show some (AV.v (.int .u64 (IntKind.u64.wrap (Int.ofNat n)))) = _
  rw [wrapU_id (by omega)]
theorem toI {n : Nat} (h : n < 9223372036854775808) : vconv .i64 (.v (.int .u64 (Int.ofNat n))) = some (I (Int.ofNat n)) := by
  show some (AV.v (.int .i64 (IntKind.i64.wrap (Int.ofNat n)))) = _
  rw [wrap_id (by simp only [Int.ofNat_eq_natCast]; omega) (by simp only [Int.ofNat_eq_natCast]; omega)]
theorem half (n : Nat) : vbin .shr (.v (.int .u64 (Int.ofNat n))) (.v (.int .u64 1)) = some (.v (.int .u64 (Int.ofNat (n / 2)))) := by
  show some (AV.v (.int .u64 ((Int.ofNat n).fdiv (2 ^ (Nat.min (1 : Int).toNat IntKind.u64.bits))))) = _
  have : (2 : Int) ^ (Nat.min (1 : Int).toNat IntKind.u64.bits) = 2 := by decide
  rw [this, Int.fdiv_eq_ediv_of_nonneg _ (by decide)]
  rfl
theorem vadd' {a b : Nat} (h : a + b < 9223372036854775808) : vbin .add (I (Int.ofNat a)) (I (Int.ofNat b)) = some (I (Int.ofNat (a + b))) := by
  rw [vadd, wrap_id (by simp only [Int.ofNat_eq_natCast]; omega) (by simp only [Int.ofNat_eq_natCast]; omega)]
  rfl
theorem loadRow {H : Heap} {cells : List AV} {i z : Nat} {l : List AV} (h : (cells.drop (i * z)).take z = l) (hl : l.length = z) : loadA H true z (.eptr (cells.drop (i * z))) = some (.agg l) := by
  have : z ≤ (cells.drop (i * z)).length := by
    have := congrArg List.length h
    rw [List.length_take, hl] at this
    omega
  simp only [loadA, cond_true, Nat.ble_eq_true_of_le this, h]
theorem iaddrRow {n z : Nat} {cells : List AV} {i : Nat} (h : i < n) : viaddr z (.fsl n cells) (I (Int.ofNat i)) = some (.eptr (cells.drop (i * z))) := by
  show (if 0 ≤ Int.ofNat i ∧ Int.ofNat i < n then some (AV.eptr (cells.drop ((Int.ofNat i).toNat * z))) else none) = _
  rw [if_pos (by constructor; exact Int.natCast_nonneg i; exact Int.ofNat_lt.2 h)]
  rfl
theorem callvK_fn0 (cf : CF) (id g : Nat) (args : List AV) (H : Heap) (nx : Nat) (K : AV → Heap → Nat → KO) : callvK cf id (.fn g []) args H nx K = callK (cf id g args H nx) K := by simp [callvK]
theorem callvK_fn (cf : CF) (id g : Nat) (caps args : List AV) (H : Heap) (nx : Nat) (K : AV → Heap → Nat → KO) : callvK cf id (.fn g caps) args H nx K = callK (cf id g (args ++ caps) H nx) K := rfl

end Go.Am
