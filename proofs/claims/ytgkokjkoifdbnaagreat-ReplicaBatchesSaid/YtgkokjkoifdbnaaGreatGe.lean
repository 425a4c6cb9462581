import Derived.Test.YtgkokjkoifdbnaaGreatMe
/- The interpreter in passing style, fast for Lean's kernel. -/
namespace Go.Am
set_option autoImplicit false
set_option linter.unusedVariables false

noncomputable def gev (x : AO) (tm : TM) : AV := AO.rec (motive := fun _ => AV) (fun i => tgetF tm i) (fun a => a) x
theorem gev_eq (x : AO) (tm : TM) : gev x tm = x.ev tm := by
  cases x with
  | t i => show tgetF tm i = _; rw [tgetF_eq]; rfl
  | c a => rfl
noncomputable def gevs (l : List AO) (tm : TM) : List AV := List.rec (motive := fun _ => List AV) [] (fun x _ ih => gev x tm :: ih) l
theorem gevs_eq (l : List AO) (tm : TM) : gevs l tm = l.map (·.ev tm) := by
  induction l with
  | nil => rfl
  | cons x l ih =>
    show gev x tm :: gevs l tm = _
    rw [ih, gev_eq]; rfl
noncomputable def gopt {α : Type} (o : Option α) (K : α → KO) : KO := Option.rec (motive := fun _ => KO) none K o
theorem gopt_pure (o : Option AV) (K : AV → KO) : gopt o K = pureK o K := by cases o <;> rfl
theorem gopt_heap (o : Option (AV × Heap)) (K : AV → Heap → KO) : gopt o (fun p => K p.1 p.2) = heapK o K := by cases o <;> rfl
theorem gopt_call (o : KO) (K : AV → Heap → Nat → KO) : gopt o (fun p => K p.1 p.2.1 p.2.2) = callK o K := by cases o <;> rfl
noncomputable def gval (a : AV) (K : Value → KO) : KO := AV.rec (motive_1 := fun _ => KO) (motive_2 := fun _ => PUnit) K (fun _ _ => none) (fun _ _ => none) (fun _ _ _ _ _ => none) (fun _ _ _ => none) (fun _ _ _ => none) (fun _ _ => none) (fun _ _ => none) PUnit.unit (fun _ _ _ _ => PUnit.unit) a
noncomputable def gagg (a : AV) (K : List AV → KO) : KO := AV.rec (motive_1 := fun _ => KO) (motive_2 := fun _ => PUnit) (fun _ => none) (fun _ _ => none) (fun _ _ => none) (fun _ _ _ _ _ => none) (fun _ _ _ => none) (fun _ _ _ => none) (fun cs _ => K cs) (fun _ _ => none) PUnit.unit (fun _ _ _ _ => PUnit.unit) a
noncomputable def gtup (a : AV) (K : List AV → KO) : KO := AV.rec (motive_1 := fun _ => KO) (motive_2 := fun _ => PUnit) (fun _ => none) (fun _ _ => none) (fun _ _ => none) (fun _ _ _ _ _ => none) (fun _ _ _ => none) (fun _ _ _ => none) (fun _ _ => none) (fun cs _ => K cs) PUnit.unit (fun _ _ _ _ => PUnit.unit) a
noncomputable def gvbool (v : Value) (K : Bool → KO) : KO := Value.casesOn (motive_1 := fun _ => KO) v K (fun _ _ => none) (fun _ _ => none) (fun _ _ _ => none) (fun _ => none) (fun _ => none) (fun _ _ _ => none) (fun _ => none) (fun _ => none) (fun _ _ _ => none) none (fun _ _ => none) none (fun _ => none) (fun _ => none)
noncomputable def gcond (x : AV) (a b : KO) : KO := gval x fun v => gvbool v fun t => Bool.rec (motive := fun _ => KO) b a t
theorem gcond_eq (x : AV) (a b : KO) : gcond x a b = condK x a b := by
  cases x with
  | v v =>
    cases v with
    | bool t => cases t <;> rfl
    | _ => rfl
  | _ => rfl
noncomputable def gbin (op : BinOp) (x y : AV) (K : AV → KO) : KO := gval x fun v => gval y fun v' => gopt (abinF op v v') fun r => K (.v r)
theorem gbin_eq (op : BinOp) (x y : AV) (K : AV → KO) : gbin op x y K = pureK (vbin op x y) K := by
  cases x with
  | v v =>
    cases y with
    | v v' =>
      show gopt (abinF op v v') (fun r => K (.v r)) = pureK ((abin op v v').map .v) K
      rw [abinF_eq]
      cases abin op v v' <;> rfl
    | _ => rfl
  | _ => cases y <;> rfl
noncomputable def gfield (agg : Bool) (off sz : Nat) (x : AV) (K : AV → KO) : KO := gagg x fun cs => gopt (cellsLoad agg off sz cs) K
theorem gfield_eq (agg : Bool) (off sz : Nat) (x : AV) (K : AV → KO) : gfield agg off sz x K = pureK (vfield agg off sz x) K := by
  cases x with
  | agg cs =>
    show gopt (cellsLoad agg off sz cs) K = pureK (vfield agg off sz (.agg cs)) K
    rw [cellsLoad_eq, gopt_pure]; rfl
  | _ => rfl
noncomputable def gext (x : AV) (i : Nat) (K : AV → KO) : KO := gtup x fun vs => gopt (nthF vs i) K
theorem gext_eq (x : AV) (i : Nat) (K : AV → KO) : gext x i K = pureK (vext x i) K := by
  cases x with
  | tup vs =>
    show gopt (nthF vs i) K = pureK (vext (.tup vs) i) K
    rw [nthF_eq, gopt_pure]; rfl
  | _ => rfl
noncomputable def gint (i : AV) (K : Int → KO) : KO := gopt (intA i) K
noncomputable def gaddr (esz : Nat) (x i : AV) (K : AV → KO) : KO := gopt (intA i) fun n => gopt (iaddrF esz n x) K
theorem gaddr_eq (esz : Nat) (x i : AV) (K : AV → KO) : gaddr esz x i K = pureK (viaddr esz x i) K := by
  unfold gaddr viaddr
  cases intA i with
  | none => rfl
  | some n =>
    show gopt (iaddrF esz n x) K = pureK (iaddrA esz n x) K
    rw [iaddrF_eq, gopt_pure]
noncomputable def gfaddr (off : Nat) (x : AV) (K : AV → KO) : KO := AV.casesOn (motive_1 := fun _ => KO) x (fun _ => none) (fun c o => K (.ptr c (Nat.add o off))) (fun cs => K (.eptr (dropF cs off))) (fun _ _ _ _ _ => none) (fun _ _ => none) (fun _ _ => none) (fun _ => none) (fun _ => none)
theorem gfaddr_eq (off : Nat) (x : AV) (K : AV → KO) : gfaddr off x K = pureK (faddrA off x) K := by
  cases x with
  | eptr cs =>
    show K (.eptr (dropF cs off)) = K (.eptr (cs.drop off))
    rw [dropF_eq]
  | _ => rfl
noncomputable def gcallv (cf : CF) (id : Nat) (f : AV) (args : List AV) (H : Heap) (nx : Nat) (K : AV → Heap → Nat → KO) : KO :=
  AV.casesOn (motive_1 := fun _ => KO) f (fun _ => none) (fun _ _ => none) (fun _ => none) (fun _ _ _ _ _ => none) (fun _ _ => none) (fun g caps => gopt (cf id g (appA args caps) H nx) fun p => K p.1 p.2.1 p.2.2) (fun _ => none) (fun _ => none)
theorem gcallv_eq (cf : CF) (id : Nat) (f : AV) (args : List AV) (H : Heap) (nx : Nat) (K : AV → Heap → Nat → KO) : gcallv cf id f args H nx K = callvK cf id f args H nx K := by
  cases f with
  | fn g caps =>
    show gopt (cf id g (appA args caps) H nx) (fun p => K p.1 p.2.1 p.2.2) = callK (cf id g (args ++ caps) H nx) K
    rw [gopt_call, appA_eq]
  | _ => rfl
noncomputable def gbox (sz : Nat) (x : AV) (K : List AV → KO) : KO := Bool.rec (motive := fun _ => KO) none (K x.cells) (Nat.beq (lenF x.cells) sz)
theorem gbox_eq (sz : Nat) (x : AV) (K : List AV → KO) : gbox sz x K = cellsK (vbox sz x) K := by
  unfold gbox vbox
  rw [lenF_eq]
  cases Nat.beq x.cells.length sz <;> rfl

noncomputable def g_move (x : AO) (cf : CF) (tm : TM) (id : Nat) (H : Heap) (nx : Nat) (K : AV → Heap → Nat → KO) : KO := K (gev x tm) H nx
noncomputable def g_pick (c : AO) (a : AO) (b : AO) (cf : CF) (tm : TM) (id : Nat) (H : Heap) (nx : Nat) (K : AV → Heap → Nat → KO) : KO := gcond (gev c tm) (K (gev a tm) H nx) (K (gev b tm) H nx)
noncomputable def g_alloc (ty : Nat) (zero : List AV) (cf : CF) (tm : TM) (id : Nat) (H : Heap) (nx : Nat) (K : AV → Heap → Nat → KO) : KO := K (.ptr id 0) ((id, ⟨ty, zero⟩) :: H) nx
noncomputable def g_box (ty : Nat) (sz : Nat) (x : AO) (cf : CF) (tm : TM) (id : Nat) (H : Heap) (nx : Nat) (K : AV → Heap → Nat → KO) : KO := gbox sz (gev x tm) fun cs => K (.ptr id 0) ((id, ⟨ty, cs⟩) :: H) nx
noncomputable def g_build (x0 : List AV) (x1 : List (Nat × Nat × AO)) (cf : CF) (tm : TM) (id : Nat) (H : Heap) (nx : Nat) (K : AV → Heap → Nat → KO) : KO := aopK cf (.build x0 x1) tm id H nx K
noncomputable def g_buildSlice (x0 : Nat) (x1 : Nat) (x2 : Nat) (x3 : List AV) (x4 : List (Nat × Nat × AO)) (cf : CF) (tm : TM) (id : Nat) (H : Heap) (nx : Nat) (K : AV → Heap → Nat → KO) : KO := aopK cf (.buildSlice x0 x1 x2 x3 x4) tm id H nx K
noncomputable def g_load (agg : Bool) (sz : Nat) (x : AO) (cf : CF) (tm : TM) (id : Nat) (H : Heap) (nx : Nat) (K : AV → Heap → Nat → KO) : KO := gopt (loadF H agg sz (gev x tm)) fun v => K v H nx
noncomputable def g_store (sz : Nat) (a : AO) (x : AO) (cf : CF) (tm : TM) (id : Nat) (H : Heap) (nx : Nat) (K : AV → Heap → Nat → KO) : KO := gopt (storeF H sz (gev a tm) (gev x tm)) fun H' => K aundef H' nx
noncomputable def g_nilChk (x0 : AO) (cf : CF) (tm : TM) (id : Nat) (H : Heap) (nx : Nat) (K : AV → Heap → Nat → KO) : KO := aopK cf (.nilChk x0) tm id H nx K
noncomputable def g_bin (op : BinOp) (x : AO) (y : AO) (cf : CF) (tm : TM) (id : Nat) (H : Heap) (nx : Nat) (K : AV → Heap → Nat → KO) : KO := gbin op (gev x tm) (gev y tm) fun v => K v H nx
noncomputable def g_beq (x0 : Bool) (x1 : AO) (x2 : AO) (cf : CF) (tm : TM) (id : Nat) (H : Heap) (nx : Nat) (K : AV → Heap → Nat → KO) : KO := aopK cf (.beq x0 x1 x2) tm id H nx K
noncomputable def g_eqAgg (x0 : Bool) (x1 : List Nat) (x2 : AO) (x3 : AO) (cf : CF) (tm : TM) (id : Nat) (H : Heap) (nx : Nat) (K : AV → Heap → Nat → KO) : KO := aopK cf (.eqAgg x0 x1 x2 x3) tm id H nx K
noncomputable def g_eqNilS (x0 : Bool) (x1 : AO) (cf : CF) (tm : TM) (id : Nat) (H : Heap) (nx : Nat) (K : AV → Heap → Nat → KO) : KO := aopK cf (.eqNilS x0 x1) tm id H nx K
noncomputable def g_eqNilP (x0 : Bool) (x1 : AO) (cf : CF) (tm : TM) (id : Nat) (H : Heap) (nx : Nat) (K : AV → Heap → Nat → KO) : KO := aopK cf (.eqNilP x0 x1) tm id H nx K
noncomputable def g_un (x0 : UnOp) (x1 : AO) (cf : CF) (tm : TM) (id : Nat) (H : Heap) (nx : Nat) (K : AV → Heap → Nat → KO) : KO := aopK cf (.un x0 x1) tm id H nx K
noncomputable def g_conv (x0 : IntKind) (x1 : AO) (cf : CF) (tm : TM) (id : Nat) (H : Heap) (nx : Nat) (K : AV → Heap → Nat → KO) : KO := aopK cf (.conv x0 x1) tm id H nx K
noncomputable def g_convS (x0 : AO) (cf : CF) (tm : TM) (id : Nat) (H : Heap) (nx : Nat) (K : AV → Heap → Nat → KO) : KO := aopK cf (.convS x0) tm id H nx K
noncomputable def g_b2s (x0 : AO) (cf : CF) (tm : TM) (id : Nat) (H : Heap) (nx : Nat) (K : AV → Heap → Nat → KO) : KO := aopK cf (.b2s x0) tm id H nx K
noncomputable def g_s2b (x0 : AO) (cf : CF) (tm : TM) (id : Nat) (H : Heap) (nx : Nat) (K : AV → Heap → Nat → KO) : KO := aopK cf (.s2b x0) tm id H nx K
noncomputable def g_mkfn (x0 : Nat) (x1 : List AO) (cf : CF) (tm : TM) (id : Nat) (H : Heap) (nx : Nat) (K : AV → Heap → Nat → KO) : KO := aopK cf (.mkfn x0 x1) tm id H nx K
noncomputable def g_mkslice (x0 : Nat) (x1 : Nat) (x2 : Nat) (x3 : List AV) (x4 : AO) (x5 : AO) (cf : CF) (tm : TM) (id : Nat) (H : Heap) (nx : Nat) (K : AV → Heap → Nat → KO) : KO := aopK cf (.mkslice x0 x1 x2 x3 x4 x5) tm id H nx K
noncomputable def g_slice (x0 : Nat) (x1 : AO) (x2 : Option AO) (x3 : Option AO) (x4 : Option AO) (cf : CF) (tm : TM) (id : Nat) (H : Heap) (nx : Nat) (K : AV → Heap → Nat → KO) : KO := aopK cf (.slice x0 x1 x2 x3 x4) tm id H nx K
noncomputable def g_sliceS (x0 : AO) (x1 : Option AO) (x2 : Option AO) (cf : CF) (tm : TM) (id : Nat) (H : Heap) (nx : Nat) (K : AV → Heap → Nat → KO) : KO := aopK cf (.sliceS x0 x1 x2) tm id H nx K
noncomputable def g_faddr (off : Nat) (x : AO) (cf : CF) (tm : TM) (id : Nat) (H : Heap) (nx : Nat) (K : AV → Heap → Nat → KO) : KO := gfaddr off (gev x tm) fun v => K v H nx
noncomputable def g_field (agg : Bool) (off : Nat) (sz : Nat) (x : AO) (cf : CF) (tm : TM) (id : Nat) (H : Heap) (nx : Nat) (K : AV → Heap → Nat → KO) : KO := gfield agg off sz (gev x tm) fun v => K v H nx
noncomputable def g_iaddr (esz : Nat) (x : AO) (i : AO) (cf : CF) (tm : TM) (id : Nat) (H : Heap) (nx : Nat) (K : AV → Heap → Nat → KO) : KO := gaddr esz (gev x tm) (gev i tm) fun v => K v H nx
noncomputable def g_aaddr (x0 : Nat) (x1 : Nat) (x2 : AO) (x3 : AO) (cf : CF) (tm : TM) (id : Nat) (H : Heap) (nx : Nat) (K : AV → Heap → Nat → KO) : KO := aopK cf (.aaddr x0 x1 x2 x3) tm id H nx K
noncomputable def g_index (x0 : AO) (x1 : AO) (cf : CF) (tm : TM) (id : Nat) (H : Heap) (nx : Nat) (K : AV → Heap → Nat → KO) : KO := aopK cf (.index x0 x1) tm id H nx K
noncomputable def g_aindex (x0 : Bool) (x1 : Nat) (x2 : Nat) (x3 : AO) (x4 : AO) (cf : CF) (tm : TM) (id : Nat) (H : Heap) (nx : Nat) (K : AV → Heap → Nat → KO) : KO := aopK cf (.aindex x0 x1 x2 x3 x4) tm id H nx K
noncomputable def g_ext (x : AO) (i : Nat) (cf : CF) (tm : TM) (id : Nat) (H : Heap) (nx : Nat) (K : AV → Heap → Nat → KO) : KO := gext (gev x tm) i fun v => K v H nx
noncomputable def g_call (g : Nat) (args : List AO) (cf : CF) (tm : TM) (id : Nat) (H : Heap) (nx : Nat) (K : AV → Heap → Nat → KO) : KO := gopt (cf id g (gevs args tm) H nx) fun p => K p.1 p.2.1 p.2.2
noncomputable def g_callv (f : AO) (args : List AO) (cf : CF) (tm : TM) (id : Nat) (H : Heap) (nx : Nat) (K : AV → Heap → Nat → KO) : KO := gcallv cf id (gev f tm) (gevs args tm) H nx K
noncomputable def g_len (x : AO) (cf : CF) (tm : TM) (id : Nat) (H : Heap) (nx : Nat) (K : AV → Heap → Nat → KO) : KO := gopt (vlen (gev x tm)) fun v => K v H nx
noncomputable def g_lenS (x0 : AO) (cf : CF) (tm : TM) (id : Nat) (H : Heap) (nx : Nat) (K : AV → Heap → Nat → KO) : KO := aopK cf (.lenS x0) tm id H nx K
noncomputable def g_append (ty : Nat) (esz : Nat) (bytes : Nat) (s : AO) (x : AO) (cf : CF) (tm : TM) (id : Nat) (H : Heap) (nx : Nat) (K : AV → Heap → Nat → KO) : KO := gopt (appendF id ty esz bytes H (gev s tm) (gev x tm)) fun p => K p.1 p.2 nx
noncomputable def g_copy (x0 : Nat) (x1 : AO) (x2 : AO) (cf : CF) (tm : TM) (id : Nat) (H : Heap) (nx : Nat) (K : AV → Heap → Nat → KO) : KO := aopK cf (.copy x0 x1 x2) tm id H nx K
noncomputable def g_clear (x0 : Nat) (x1 : List AV) (x2 : AO) (cf : CF) (tm : TM) (id : Nat) (H : Heap) (nx : Nat) (K : AV → Heap → Nat → KO) : KO := aopK cf (.clear x0 x1 x2) tm id H nx K
noncomputable def g_max (x0 : List AO) (cf : CF) (tm : TM) (id : Nat) (H : Heap) (nx : Nat) (K : AV → Heap → Nat → KO) : KO := aopK cf (.max x0) tm id H nx K
noncomputable def g_min (x0 : List AO) (cf : CF) (tm : TM) (id : Nat) (H : Heap) (nx : Nat) (K : AV → Heap → Nat → KO) : KO := aopK cf (.min x0) tm id H nx K
noncomputable def g_bad  (cf : CF) (tm : TM) (id : Nat) (H : Heap) (nx : Nat) (K : AV → Heap → Nat → KO) : KO := aopK cf (.bad) tm id H nx K
noncomputable def gop (cf : CF) (op : AOp) (tm : TM) (id : Nat) (H : Heap) (nx : Nat) (K : AV → Heap → Nat → KO) : KO :=
  AOp.rec (motive := fun _ => CF → TM → Nat → Heap → Nat → (AV → Heap → Nat → KO) → KO) g_move g_pick g_alloc g_box g_build g_buildSlice g_load g_store g_nilChk g_bin g_beq g_eqAgg g_eqNilS g_eqNilP g_un g_conv g_convS g_b2s g_s2b g_mkfn g_mkslice g_slice g_sliceS g_faddr g_field g_iaddr g_aaddr g_index g_aindex g_ext g_call g_callv g_len g_lenS g_append g_copy g_clear g_max g_min g_bad op cf tm id H nx K
theorem gop_eq (cf : CF) (op : AOp) (tm : TM) (id : Nat) (H : Heap) (nx : Nat) (K : AV → Heap → Nat → KO) : gop cf op tm id H nx K = aopK cf op tm id H nx K := by
  cases op with
  | move x => show K (gev x tm) H nx = K (x.ev tm) H nx; rw [gev_eq]
  | alloc ty zero => rfl
  | box ty sz x => simp only [gop, g_box, aopK, gbox_eq, gev_eq]
  | load agg sz x => simp only [gop, g_load, aopK, gopt_pure, gev_eq, loadF_eq]
  | store sz a x =>
    simp only [gop, g_store, aopK, gev_eq, storeF_eq]
    cases storeA H sz (a.ev tm) (x.ev tm) <;> rfl
  | bin op x y => simp only [gop, g_bin, aopK, gbin_eq, gev_eq]
  | field agg off sz x => simp only [gop, g_field, aopK, gfield_eq, gev_eq]
  | faddr off x => simp only [gop, g_faddr, aopK, gfaddr_eq, gev_eq]
  | iaddr esz x i => simp only [gop, g_iaddr, aopK, gaddr_eq, gev_eq]
  | ext x i => simp only [gop, g_ext, aopK, gext_eq, gev_eq]
  | call g args => simp only [gop, g_call, aopK, gopt_call, gevs_eq]
  | callv f args => simp only [gop, g_callv, aopK, gcallv_eq, gevs_eq, gev_eq]
  | append ty esz bytes s x => simp only [gop, g_append, aopK, appendF_eq, gev_eq]; exact gopt_heap _ fun v H' => K v H' nx
  | len x => simp only [gop, g_len, aopK, gopt_pure, gev_eq]
  | pick c a b =>
    simp only [gop, g_pick, aopK, gcond_eq, gev_eq]
    unfold vpick condK
    split
    · rename_i t e; cases t <;> rfl
    · rfl
  | _ => rfl

abbrev KT := TM → Heap → Nat → KO
noncomputable def putG (dst : Option Nat) (tm : TM) (a : AV) : TM := Option.rec (motive := fun _ => TM) tm (fun d => tsetF tm d a) dst
theorem putG_eq (o : AOper) (s : St) (H : Heap) (nx : Nat) (a : AV) : (⟨putG o.dst s.tm a, H, nx⟩ : St) = ({ s with H := H, nx := nx } : St).put o a := by
  unfold putG St.put
  cases o.dst with
  | none => rfl
  | some d => simp only [tsetF_eq]
noncomputable def opG0 (cf : CF) (id : Nat) (o : AOper) (tm : TM) (H : Heap) (nx : Nat) (K : KT) : KO := gop cf o.op tm id H nx fun a H nx => K (putG o.dst tm a) H nx
noncomputable def opG1 (g : Nat × Bool) (cf : CF) (id : Nat) (o : AOper) (tm : TM) (H : Heap) (nx : Nat) (K : KT) : KO := guardK (tgetF tm g.1) g.2 (gop cf o.op tm id H nx fun a H nx => some (a, H, nx)) H nx fun a H nx => K (putG o.dst tm a) H nx
noncomputable def opG (cf : CF) (id : Nat) (o : AOper) (tm : TM) (H : Heap) (nx : Nat) (K : KT) : KO :=
  Option.rec (motive := fun _ => CF → Nat → AOper → TM → Heap → Nat → KT → KO) opG0 opG1 o.guard cf id o tm H nx K
theorem opG_eq (cf : CF) (id : Nat) (o : AOper) (s : St) (K : St → KO) : opG cf id o s.tm s.H s.nx (fun tm H nx => K ⟨tm, H, nx⟩) = opK cf id o s K := by
  unfold opG opK
  cases o.guard with
  | none => simp only [opG0, gop_eq, putG_eq]
  | some g => obtain ⟨t, want⟩ := g; simp only [opG1, gop_eq, putG_eq, tgetF_eq]
noncomputable def regG (cf : CF) (os : List AOper) : Nat → TM → Heap → Nat → KT → KO :=
  List.rec (motive := fun _ => Nat → TM → Heap → Nat → KT → KO) (fun _ tm H nx K => K tm H nx) (fun o _ ih id tm H nx K => opG cf id o tm H nx fun tm H nx => ih (Nat.succ id) tm H nx K) os
theorem regG_eq (cf : CF) : ∀ (os : List AOper) (id : Nat) (s : St) (K : St → KO), regG cf os id s.tm s.H s.nx (fun tm H nx => K ⟨tm, H, nx⟩) = regK cf os id s K
  | [], id, s, K => rfl
  | o :: os, id, s, K => by
    show opG cf id o s.tm s.H s.nx (fun tm H nx => regG cf os (Nat.succ id) tm H nx fun tm H nx => K ⟨tm, H, nx⟩) = opK cf id o s fun s' => regK cf os (id + 1) s' K
    rw [← opG_eq]
    congr 1
    funext tm H nx
    exact regG_eq cf os (id + 1) ⟨tm, H, nx⟩ K

end Go.Am

/- Regions whose order is open, fast for Lean's kernel. -/
namespace Go.Am
set_option autoImplicit false
set_option linter.unusedVariables false

noncomputable def shF (a : AV) : List Nat := AV.rec (motive_1 := fun _ => List Nat) (motive_2 := fun _ => PUnit) (fun _ => []) (fun c _ => [c]) (fun _ _ => []) (fun c _ _ _ _ => [c]) (fun _ _ _ => []) (fun _ _ _ => []) (fun _ _ => []) (fun _ _ => []) PUnit.unit (fun _ _ _ _ => PUnit.unit) a
theorem shF_eq (a : AV) : shF a = shA a := by cases a <;> rfl
def t_no (tm : TM) (H : Heap) : List Nat := []
noncomputable def t_load (_u0 : Bool) (_u1 : Nat) (x : AO) (tm : TM) (H : Heap) : List Nat := shF (gev x tm)
noncomputable def t_b2s (x : AO) (tm : TM) (H : Heap) : List Nat := shF (gev x tm)
noncomputable def t_store (_u0 : Nat) (a : AO) (_u2 : AO) (tm : TM) (H : Heap) : List Nat := shF (gev a tm)
noncomputable def t_append (_u0 : Nat) (_u1 : Nat) (_u2 : Nat) (s : AO) (x : AO) (tm : TM) (H : Heap) : List Nat := shF (gev s tm) ++ shF (gev x tm)
noncomputable def t_copy (_u0 : Nat) (d : AO) (s : AO) (tm : TM) (H : Heap) : List Nat := shF (gev d tm) ++ shF (gev s tm)
noncomputable def t_clear (_u0 : Nat) (_u1 : List AV) (s : AO) (tm : TM) (H : Heap) : List Nat := shF (gev s tm)
noncomputable def t_call (_u0 : Nat) (args : List AO) (tm : TM) (H : Heap) : List Nat := flatF (reachF H depthA) (gevs args tm) []
noncomputable def t_callv (f : AO) (args : List AO) (tm : TM) (H : Heap) : List Nat := flatF (reachF H depthA) (gev f tm :: gevs args tm) []
noncomputable def touchF (op : AOp) (tm : TM) (H : Heap) : List Nat := AOp.rec (motive := fun _ => TM → Heap → List Nat) (fun _ => t_no) (fun _ _ _ => t_no) (fun _ _ => t_no) (fun _ _ _ => t_no) (fun _ _ => t_no) (fun _ _ _ _ _ => t_no) t_load t_store (fun _ => t_no) (fun _ _ _ => t_no) (fun _ _ _ => t_no) (fun _ _ _ _ => t_no) (fun _ _ => t_no) (fun _ _ => t_no) (fun _ _ => t_no) (fun _ _ => t_no) (fun _ => t_no) t_b2s (fun _ => t_no) (fun _ _ => t_no) (fun _ _ _ _ _ _ => t_no) (fun _ _ _ _ _ => t_no) (fun _ _ _ => t_no) (fun _ _ => t_no) (fun _ _ _ _ => t_no) (fun _ _ _ => t_no) (fun _ _ _ _ => t_no) (fun _ _ => t_no) (fun _ _ _ _ _ => t_no) (fun _ _ => t_no) t_call t_callv (fun _ => t_no) (fun _ => t_no) t_append t_copy t_clear (fun _ => t_no) (fun _ => t_no) t_no op tm H
theorem touchF_eq (op : AOp) (tm : TM) (H : Heap) : touchF op tm H = touchA tm H op := by
  cases op with
  | load _ _ x => show shF (gev x tm) = _; rw [shF_eq, gev_eq]; rfl
  | b2s x => show shF (gev x tm) = _; rw [shF_eq, gev_eq]; rfl
  | store _ a _ => show shF (gev a tm) = _; rw [shF_eq, gev_eq]; rfl
  | append _ _ _ s x => show shF (gev s tm) ++ shF (gev x tm) = _; rw [shF_eq, shF_eq, gev_eq, gev_eq]; rfl
  | copy _ d s => show shF (gev d tm) ++ shF (gev s tm) = _; rw [shF_eq, shF_eq, gev_eq, gev_eq]; rfl
  | clear _ _ s => show shF (gev s tm) = _; rw [shF_eq, gev_eq]; rfl
  | call g args => show flatF (reachF H depthA) (gevs args tm) [] = _; rw [flatF_eq (reachF_eq H depthA), gevs_eq, List.append_nil]; rfl
  | callv f args => show flatF (reachF H depthA) (gev f tm :: gevs args tm) [] = _; rw [flatF_eq (reachF_eq H depthA), gevs_eq, gev_eq, List.append_nil]; rfl
  | _ => rfl
def k_f (T : Table) : Bool := false
def k_t (T : Table) : Bool := true
def k_call (g : Nat) (_ : List AO) (T : Table) : Bool := !ownG T g
def k_num (g : Nat) (_ : List AO) (T : Table) : Bool := inG T g
noncomputable def makesF (op : AOp) (T : Table) : Bool := AOp.rec (motive := fun _ => Table → Bool) (fun _ => k_f) (fun _ _ _ => k_f) (fun _ _ => k_t) (fun _ _ _ => k_t) (fun _ _ => k_f) (fun _ _ _ _ _ => k_t) (fun _ _ _ => k_f) (fun _ _ _ => k_t) (fun _ => k_f) (fun _ _ _ => k_f) (fun _ _ _ => k_f) (fun _ _ _ _ => k_f) (fun _ _ => k_f) (fun _ _ => k_f) (fun _ _ => k_f) (fun _ _ => k_f) (fun _ => k_f) (fun _ => k_f) (fun _ => k_f) (fun _ _ => k_f) (fun _ _ _ _ _ _ => k_t) (fun _ _ _ _ _ => k_f) (fun _ _ _ => k_f) (fun _ _ => k_f) (fun _ _ _ _ => k_f) (fun _ _ _ => k_f) (fun _ _ _ _ => k_f) (fun _ _ => k_f) (fun _ _ _ _ _ => k_f) (fun _ _ => k_f) k_call (fun _ _ => k_t) (fun _ => k_f) (fun _ => k_f) (fun _ _ _ _ _ => k_t) (fun _ _ _ => k_t) (fun _ _ _ => k_t) (fun _ => k_f) (fun _ => k_f) k_f op T
theorem makesF_eq (op : AOp) (T : Table) : makesF op T = op.makes T := by cases op <;> rfl
noncomputable def numbersF (op : AOp) (T : Table) : Bool := AOp.rec (motive := fun _ => Table → Bool) (fun _ => k_f) (fun _ _ _ => k_f) (fun _ _ => k_f) (fun _ _ _ => k_f) (fun _ _ => k_f) (fun _ _ _ _ _ => k_f) (fun _ _ _ => k_f) (fun _ _ _ => k_f) (fun _ => k_f) (fun _ _ _ => k_f) (fun _ _ _ => k_f) (fun _ _ _ _ => k_f) (fun _ _ => k_f) (fun _ _ => k_f) (fun _ _ => k_f) (fun _ _ => k_f) (fun _ => k_f) (fun _ => k_f) (fun _ => k_f) (fun _ _ => k_f) (fun _ _ _ _ _ _ => k_f) (fun _ _ _ _ _ => k_f) (fun _ _ _ => k_f) (fun _ _ => k_f) (fun _ _ _ _ => k_f) (fun _ _ _ => k_f) (fun _ _ _ _ => k_f) (fun _ _ => k_f) (fun _ _ _ _ _ => k_f) (fun _ _ => k_f) k_num (fun _ _ => k_t) (fun _ => k_f) (fun _ => k_f) (fun _ _ _ _ _ => k_f) (fun _ _ _ => k_f) (fun _ _ _ => k_f) (fun _ => k_f) (fun _ => k_f) k_f op T
theorem numbersF_eq (op : AOp) (T : Table) : numbersF op T = op.numbers T := by cases op <;> rfl
noncomputable def hinF (t : List Nat) (H : Heap) : Heap := List.rec (motive := fun _ => Heap) [] (fun _ _ _ => keepF t H) t
theorem hinF_eq (t : List Nat) (H : Heap) : hinF t H = hin t H := by
  cases t with
  | nil => rfl
  | cons c r => show keepF (c :: r) H = _; rw [keepF_eq]; rfl
noncomputable def dropOf (ids : List Nat) (H : Heap) : Heap := List.rec (motive := fun _ => Heap) [] (fun p _ ih => Bool.rec (motive := fun _ => Heap) (p :: ih) ih (memF p.1 ids)) H
theorem dropOf_eq (ids : List Nat) (H : Heap) : dropOf ids H = hpart false ids H := by
  induction H with
  | nil => rfl
  | cons p H ih =>
    show Bool.rec (motive := fun _ => Heap) (p :: dropOf ids H) (dropOf ids H) (memF p.1 ids) = _
    rw [ih, memF_eq]
    simp only [hpart]
    cases memN p.1 ids <;> rfl
noncomputable def houtF (t : List Nat) (H : Heap) : Heap := List.rec (motive := fun _ => Heap) H (fun _ _ _ => dropOf t H) t
theorem houtF_eq (t : List Nat) (H : Heap) : houtF t H = hout t H := by
  cases t with
  | nil => rfl
  | cons c r => show dropOf (c :: r) H = _; rw [dropOf_eq]; rfl
noncomputable def drF (T : Table) (op : AOp) (t : List Nat) (nx : Nat) (a : AV) (H2 : Heap) (nx2 : Nat) : DR :=
  Bool.rec (motive := fun _ => DR) ⟨a, t, [], [], nx⟩ ⟨a, t, t, H2, Bool.rec (motive := fun _ => Nat) nx nx2 (numbersF op T)⟩ (makesF op T)
theorem drF_eq (T : Table) (op : AOp) (t : List Nat) (nx : Nat) (a : AV) (H2 : Heap) (nx2 : Nat) : drF T op t nx a H2 nx2 = drOf T op t nx a H2 nx2 := by
  unfold drF drOf
  rw [makesF_eq, numbersF_eq]
  cases AOp.makes T op <;> cases AOp.numbers T op <;> rfl
noncomputable def dop1 (T : Table) (cf : CF) (id : Nat) (op : AOp) (t : List Nat) (tm : TM) (H : Heap) (nx : Nat) (K : DR → KO) : KO := gop cf op tm id (hinF t H) nx fun a H2 n2 => K (drF T op t nx a H2 n2)
noncomputable def dopG0 (T : Table) (cf : CF) (id : Nat) (o : AOper) (tm : TM) (H : Heap) (nx : Nat) (K : DR → KO) : KO := dop1 T cf id o.op (touchF o.op tm H) tm H nx K
noncomputable def dopG1 (g : Nat × Bool) (T : Table) (cf : CF) (id : Nat) (o : AOper) (tm : TM) (H : Heap) (nx : Nat) (K : DR → KO) : KO :=
  gopt (gK (tgetF tm g.1) g.2 (gop cf o.op tm id (hinF (touchF o.op tm H) H) nx fun a H nx => some (a, H, nx))) fun p => K (drG (goesF tm o) T o.op (touchF o.op tm H) nx p.1 p.2.1 p.2.2)
noncomputable def dopG (T : Table) (cf : CF) (id : Nat) (o : AOper) (tm : TM) (H : Heap) (nx : Nat) (K : DR → KO) : KO :=
  Option.rec (motive := fun _ => Table → CF → Nat → AOper → TM → Heap → Nat → (DR → KO) → KO) dopG0 dopG1 o.guard T cf id o tm H nx K
theorem dopG_eq (T : Table) (cf : CF) (id : Nat) (o : AOper) (s : St) (K : DR → KO) : dopG T cf id o s.tm s.H s.nx K = dopK T cf id o s K := by
  unfold dopG dopK
  cases hg : o.guard with
  | none => simp only [dopG0, dop1, gop_eq, touchF_eq, hinF_eq, drF_eq]
  | some g =>
    obtain ⟨t, want⟩ := g
    simp only [dopG1, gop_eq, touchF_eq, hinF_eq, tgetF_eq, goesF_eq]
    exact gopt_call _ fun a H2 n2 => K (drG (goes s.tm o) T o.op (touchA s.tm s.H o.op) s.nx a H2 n2)
noncomputable def dregG (T : Table) (cf : CF) (os : List AOper) : Nat → TM → Heap → Nat → (List DR → KT) → KO :=
  List.rec (motive := fun _ => Nat → TM → Heap → Nat → (List DR → KT) → KO) (fun _ tm H nx K => K [] tm H nx)
    (fun o _ ih id tm H nx K => dopG T cf id o tm H nx fun d => ih (Nat.succ id) (putG o.dst tm d.r) (appF d.H2 (houtF d.wr H)) d.nx fun ds tm H nx => K (d :: ds) tm H nx) os
theorem dregG_eq (T : Table) (cf : CF) : ∀ (os : List AOper) (id : Nat) (s : St) (K : List DR → St → KO), dregG T cf os id s.tm s.H s.nx (fun ds tm H nx => K ds ⟨tm, H, nx⟩) = dregK T cf os id s K
  | [], id, s, K => rfl
  | o :: os, id, s, K => by
    show dopG T cf id o s.tm s.H s.nx (fun d => dregG T cf os (Nat.succ id) (putG o.dst s.tm d.r) (appF d.H2 (houtF d.wr s.H)) d.nx fun ds tm H nx => K (d :: ds) ⟨tm, H, nx⟩) = dopK T cf id o s fun d => dregK T cf os (id + 1) (dput s o.dst d) fun ds s' => K (d :: ds) s'
    rw [dopG_eq]
    congr 1
    funext d
    have e : dput s o.dst d = ⟨putG o.dst s.tm d.r, appF d.H2 (houtF d.wr s.H), d.nx⟩ := by
      unfold dput putG
      rw [appF_eq, houtF_eq]
      cases o.dst with
      | none => rfl
      | some k => simp only [tsetF_eq]
    rw [e]
    exact dregG_eq T cf os (id + 1) ⟨putG o.dst s.tm d.r, appF d.H2 (houtF d.wr s.H), d.nx⟩ fun ds s' => K (d :: ds) s'
noncomputable def chkF (all : List DR) (os : List AOper) : List DR → Bool :=
  List.rec (motive := fun _ => List DR → Bool) (fun _ => true) (fun o _ ih ds => List.rec (motive := fun _ => Bool) true (fun d r _ => Bool.rec (motive := fun _ => Bool) false (ih r) (List.rec (motive := fun _ => Bool) true (fun k u _ => chkU all d (k :: u)) o.un)) ds) os
theorem chkF_eq (all : List DR) : ∀ (os : List AOper) (ds : List DR), chkF all os ds = chkD all os ds
  | [], ds => by cases ds <;> rfl
  | o :: os, [] => rfl
  | o :: os, d :: ds => by
    show Bool.rec (motive := fun _ => Bool) false (chkF all os ds) (List.rec (motive := fun _ => Bool) true (fun k u _ => chkU all d (k :: u)) o.un) = _
    rw [chkF_eq all os ds]
    have : (List.rec (motive := fun _ => Bool) true (fun k u _ => chkU all d (k :: u)) o.un) = chkU all d o.un := by cases o.un <;> rfl
    rw [this]
    simp only [chkD]
    cases chkU all d o.un <;> rfl
end Go.Am

/- Code in passing style, fast for Lean's kernel. -/
namespace Go.Am
set_option autoImplicit false
set_option linter.unusedVariables false

abbrev KE := AEx → TM → Heap → Nat → KO
noncomputable def aex (e : AEx) (n : KO) (x : Nat → KO) (g : Nat → KO) (r : KO) : KO := AEx.casesOn (motive := fun _ => KO) e n x g r
noncomputable def seqG (b : TM → Heap → Nat → KE → KO) (K : KE) : KE := fun e tm H nx => aex e (b tm H nx K) (fun id => K (.exit id) tm H nx) (fun l => K (.goto l) tm H nx) (K .ret tm H nx)
noncomputable def blockG (id : Nat) (K : KE) : KE := fun e tm H nx => aex e (K .normal tm H nx) (fun id' => Bool.rec (motive := fun _ => KO) (K (.exit id') tm H nx) (K .normal tm H nx) (Nat.beq id' id)) (fun l => K (.goto l) tm H nx) (K .ret tm H nx)
noncomputable def loopG (again : TM → Heap → Nat → KE → KO) (K : KE) : KE := fun e tm H nx => aex e (again tm H nx K) (fun id => K (.exit id) tm H nx) (fun l => K (.goto l) tm H nx) (K .ret tm H nx)
noncomputable def scopeG (again : ACode → TM → Heap → Nat → KE → KO) (c : ACode) (K : KE) : KE := fun e tm H nx => aex e (K .normal tm H nx) (fun id => K (.exit id) tm H nx) (fun l => Option.rec (motive := fun _ => KO) (K (.goto l) tm H nx) (fun r => again (.scope c r) tm H nx K) (findL c l)) (K .ret tm H nx)
noncomputable def stepG (T : Table) (cf : CF) (again : ACode → TM → Heap → Nat → KE → KO) (c : ACode) : TM → Heap → Nat → KE → KO :=
  ACode.rec (motive := fun _ => TM → Heap → Nat → KE → KO)
    (fun tm H nx K => K .normal tm H nx)
    (fun ops tm H nx K => regG cf ops nx tm H (Nat.add nx ops.length) fun tm H nx => K .normal tm H nx)
    (fun ops tm H nx K => dregG T cf ops nx tm H (Nat.add nx ops.length) fun ds tm H nx => Bool.rec (motive := fun _ => KO) none (K .normal tm H nx) (chkF ds ops ds))
    (fun _ _ a b tm H nx K => a tm H nx (seqG b K))
    (fun c _ _ a b tm H nx K => gcond (gev c tm) (a tm H nx K) (b tm H nx K))
    (fun id _ c tm H nx K => c tm H nx (blockG id K))
    (fun c0 c tm H nx K => c tm H nx (loopG (again (.loop c0)) K))
    (fun id tm H nx K => K (.exit id) tm H nx)
    (fun c0 _ _ cur tm H nx K => cur tm H nx (scopeG again c0 K))
    (fun _ tm H nx K => K .normal tm H nx)
    (fun l tm H nx K => K (.goto l) tm H nx)
    (fun tm H nx K => K .ret tm H nx)
    c
def KC.g (K : KC) : KE := fun e tm H nx => K e ⟨tm, H, nx⟩
theorem stepG_eq (T : Table) (cf : CF) {ag : ACode → St → KC → KO} {ag' : ACode → TM → Heap → Nat → KE → KO} (hag : ∀ c s K, ag' c s.tm s.H s.nx (KC.g K) = ag c s K) : ∀ (c : ACode) (s : St) (K : KC), stepG T cf ag' c s.tm s.H s.nx (KC.g K) = stepK T cf ag c s K := by
  intro c
  induction c with
  | skip => intro s K; rfl
  | region ops =>
    intro s K
    exact regG_eq cf ops s.nx { s with nx := s.nx + ops.length } fun s' => K .normal s'
  | dregion ops =>
    intro s K
    show dregG T cf ops s.nx s.tm s.H (Nat.add s.nx ops.length) (fun ds tm H nx => Bool.rec (motive := fun _ => KO) none (K .normal ⟨tm, H, nx⟩) (chkF ds ops ds)) = dregK T cf ops s.nx { s with nx := s.nx + ops.length } fun ds s' => bif chkD ds ops ds then K .normal s' else none
    rw [← dregG_eq]
    show dregG T cf ops s.nx s.tm s.H (Nat.add s.nx ops.length) _ = dregG T cf ops s.nx s.tm s.H (s.nx + ops.length) _
    congr 1
    funext ds tm H nx
    rw [chkF_eq]
    cases chkD ds ops ds <;> rfl
  | seq a b iha ihb =>
    intro s K
    show stepG T cf ag' a s.tm s.H s.nx (seqG (stepG T cf ag' b) (KC.g K)) = stepK T cf ag a s (seqC (stepK T cf ag b) K)
    rw [← iha]
    congr 1
    funext e tm H nx
    cases e with
    | normal => exact ihb ⟨tm, H, nx⟩ K
    | _ => rfl
  | cond c a b iha ihb =>
    intro s K
    show gcond (gev c s.tm) (stepG T cf ag' a s.tm s.H s.nx (KC.g K)) (stepG T cf ag' b s.tm s.H s.nx (KC.g K)) = condK (c.ev s.tm) (stepK T cf ag a s K) (stepK T cf ag b s K)
    rw [iha, ihb, gcond_eq, gev_eq]
  | block id c ih =>
    intro s K
    show stepG T cf ag' c s.tm s.H s.nx (blockG id (KC.g K)) = stepK T cf ag c s (blockC id K)
    rw [← ih]
    congr 1
    funext e tm H nx
    cases e with
    | exit id' =>
      show Bool.rec (motive := fun _ => KO) (K (.exit id') ⟨tm, H, nx⟩) (K .normal ⟨tm, H, nx⟩) (Nat.beq id' id) = bif Nat.beq id' id then K .normal ⟨tm, H, nx⟩ else K (.exit id') ⟨tm, H, nx⟩
      cases Nat.beq id' id <;> rfl
    | _ => rfl
  | loop c ih =>
    intro s K
    show stepG T cf ag' c s.tm s.H s.nx (loopG (ag' (.loop c)) (KC.g K)) = stepK T cf ag c s (loopC (ag (.loop c)) K)
    rw [← ih]
    congr 1
    funext e tm H nx
    cases e with
    | normal => exact hag (.loop c) ⟨tm, H, nx⟩ K
    | _ => rfl
  | exit id => intro s K; rfl
  | scope c cur ihc ihcur =>
    intro s K
    show stepG T cf ag' cur s.tm s.H s.nx (scopeG ag' c (KC.g K)) = stepK T cf ag cur s (scopeC ag c K)
    rw [← ihcur]
    congr 1
    funext e tm H nx
    cases e with
    | goto l =>
      show Option.rec (motive := fun _ => KO) (K (.goto l) ⟨tm, H, nx⟩) (fun r => ag' (.scope c r) tm H nx (KC.g K)) (findL c l) = match findL c l with
        | none => K (.goto l) ⟨tm, H, nx⟩
        | some r => ag (.scope c r) ⟨tm, H, nx⟩ K
      cases findL c l with
      | none => rfl
      | some r => exact hag (.scope c r) ⟨tm, H, nx⟩ K
    | _ => rfl
  | label l => intro s K; rfl
  | goto l => intro s K; rfl
  | ret => intro s K; rfl
noncomputable def execG (T : Table) (cf : CF) (n : Nat) : ACode → TM → Heap → Nat → KE → KO :=
  Nat.rec (motive := fun _ => ACode → TM → Heap → Nat → KE → KO) (fun _ _ _ _ _ => none) (fun _ ih => stepG T cf ih) n
theorem execG_eq (T : Table) (cf : CF) : ∀ (n : Nat) (c : ACode) (s : St) (K : KC), execG T cf n c s.tm s.H s.nx (KC.g K) = execK T cf n c s K
  | 0, c, s, K => rfl
  | n + 1, c, s, K => stepG_eq T cf (execG_eq T cf n) c s K
end Go.Am

/- Runs and calls, in passing style. -/
namespace Go.Am
set_option autoImplicit false
set_option linter.unusedVariables false

noncomputable def finG (rs : List ARes) : KE := fun e tm H nx => aex e (match resultsA tm H rs with
    | none => none
    | some r => some (r, H, nx)) (fun _ => none) (fun _ => none) (match resultsA tm H rs with
    | none => none
    | some r => some (r, H, nx))
theorem finG_eq (rs : List ARes) : finG rs = KC.g (finK rs) := by
  funext e tm H nx
  cases e <;> rfl
noncomputable def runG (T : Table) (cf : CF) (k : Nat) (f : AFun) (args : List AV) (H : Heap) (nx : Nat) : KO :=
  bif Nat.ble args.length f.ntmps && Nat.ble f.ntmps 4096 then execG T cf k f.body (padA args f.ntmps) H nx (finG f.results) else none
theorem runG_eq (T : Table) (cf : CF) (k : Nat) (f : AFun) (args : List AV) (H : Heap) (nx : Nat) : runG T cf k f args H nx = runK T cf k f args H nx := by
  unfold runG runK
  rw [finG_eq, ← execG_eq]
noncomputable def callG (T : Table) (k : Nat) (cf : CF) : CF := fun id g args H nx =>
  match T g with
  | some (.code f m) => bif f.own then ownC m (fun args' => runG T cf k f args' [] 0) args H nx else inC args (fun h => runG T cf k f args h nx) (partF (flatF (reachF H depthA) args []) H)
  | some (.prim p) => match p id args H with
    | none => none
    | some (r, H') => some (r, H', nx)
  | none => none
noncomputable def cfG (T : Table) (k : Nat) (n : Nat) : CF := Nat.rec (motive := fun _ => CF) (fun _ _ _ _ _ => none) (fun _ ih => callG T k ih) n
theorem callG_ok {T : Table} {k : Nat} {cf : CF} (hcf : CFok T cf) : CFok T (callG T k cf) := by
  intro id g args H nx x h
  unfold callG at h
  cases hT : T g with
  | none => rw [hT] at h; simp at h
  | some e =>
    rw [hT] at h
    cases e with
    | prim p => exact ⟨0, by unfold callF; rw [hT]; exact h⟩
    | code f m =>
      simp only at h
      have key : ∀ N, callF T (exec T N) id g args H nx = callFF T (exec T N) id g args H nx := fun N => (callFF_eq T _ id g args H nx).symm
      cases ho : f.own with
      | true =>
        rw [ho, cond_true] at h
        unfold ownC at h
        cases ha : mapOF (frzF false H depthA) args with
        | none => rw [ha] at h; simp at h
        | some args' =>
          rw [ha] at h
          simp only at h
          cases hm : m (liveF args) args' with
          | some r =>
            rw [hm] at h
            refine ⟨0, ?_⟩
            rw [key]; unfold callFF; rw [hT]; simp only [ho, cond_true]; unfold ownC
            rw [ha]; simp only [hm]; exact h
          | none =>
            rw [hm] at h
            simp only at h
            cases hr : runG T cf k f args' [] 0 with
            | none => rw [hr] at h; simp at h
            | some y =>
              obtain ⟨N, hN⟩ := runK_run hcf (by rw [← runG_eq]; exact hr)
              refine ⟨N, ?_⟩
              rw [key]; unfold callFF; rw [hT]; simp only [ho, cond_true]; unfold ownC
              rw [ha]; simp only [hm, hN]; rw [hr] at h; exact h
      | false =>
        rw [ho, cond_false] at h
        unfold inC at h
        simp only [] at h
        cases hr : runG T cf k f args (partF (flatF (reachF H depthA) args []) H).1 nx with
        | none => rw [hr] at h; simp at h
        | some y =>
          obtain ⟨N, hN⟩ := runK_run hcf (by rw [← runG_eq]; exact hr)
          refine ⟨N, ?_⟩
          rw [key]; unfold callFF; rw [hT]; simp only [ho, cond_false]; unfold inC
          simp only []; rw [hN]; rw [hr] at h; exact h
theorem cfG_ok (T : Table) (k : Nat) : ∀ n, CFok T (cfG T k n)
  | 0 => fun id g args H nx x h => by simp [cfG] at h
  | n + 1 => callG_ok (cfG_ok T k n)
noncomputable def ownG' (T : Table) (k n : Nat) (g : Nat) (b : Bool) (args : List AV) : Option AV :=
  match T g with
  | some (.code f _) => match runG T (cfG T k n) k f args [] 0 with
    | none => none
    | some x => frzF b x.2.1 depthA x.1
  | _ => none
theorem ownG'_run {T : Table} {k n g : Nat} {b : Bool} {args : List AV} {r : AV} (h : ownG' T k n g b args = some r) : ∃ N, ownA T N g b args = some r := by
  unfold ownG' at h
  unfold ownA
  split at h
  · rename_i f m hf
    split at h
    · simp at h
    · rename_i x hx
      obtain ⟨N, hN⟩ := runK_run (cfG_ok T k n) (by rw [← runG_eq]; exact hx)
      refine ⟨N, ?_⟩
      rw [frzF_eq] at h
      simp only [hf, hN]; exact h
  · simp at h
/-- An answer that is known, by a fast run. -/
theorem knownG {P : Program} (hm : P.follows .mixedOrders = true) {T : Table} {mm : Nat → Bool → List AV → Option AV} (h : TabOK P (compC P (withM T mm)) (withM T mm)) {k n g : Nat} {b : Bool} {args : List AV} {r : AV} (hr : isR (ownG' (withM T mm) k n g b args) r = true) :
    ∀ f m, T g = some (.code f m) → MemOK P (compC P T) f b args r := by
  unfold isR at hr
  split at hr
  · simp at hr
  · rename_i a ha
    rw [avEq_eq hr] at ha
    obtain ⟨N, hN⟩ := ownG'_run ha
    exact memOK_with hm h hN
/-- A law's run. -/
theorem ranG {T : Table} {k n g : Nat} {args : List AV} (h : isT (ownG' T k n g false args) = true) : ∃ N, isT (runA T N g args) = true := by
  cases hr : ownG' T k n g false args with
  | none => rw [hr] at h; simp [isT] at h
  | some r =>
    obtain ⟨N, hN⟩ := ownG'_run hr
    refine ⟨N, ?_⟩
    have : runA T N g args = ownA T N g false args := by unfold runA ownA; rfl
    rw [this, hN]; rw [hr] at h; exact h
end Go.Am
