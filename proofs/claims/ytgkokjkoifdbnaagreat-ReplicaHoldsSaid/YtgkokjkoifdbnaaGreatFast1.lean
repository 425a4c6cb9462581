import Derived.Test.YtgkokjkoifdbnaaGreatFast
/- One operation, arm by arm. -/
namespace Go.Am
set_option autoImplicit false
set_option linter.unusedVariables false

noncomputable def a_move (x : AO) (tm : TM) (id : Nat) (H : Heap) : Option Out :=  some (.val (x.evF tm) H)
noncomputable def a_pick (c : AO) (a : AO) (b : AO) (tm : TM) (id : Nat) (H : Heap) : Option Out :=  match boolA (c.evF tm) with
    | none => none
    | some t => some (.val (bif t then a.evF tm else b.evF tm) H)
noncomputable def a_alloc (ty : Nat) (zero : List AV) (tm : TM) (id : Nat) (H : Heap) : Option Out :=  some (.val (.ptr id 0) ((id, ⟨ty, zero⟩) :: H))
noncomputable def a_box (ty : Nat) (sz : Nat) (x : AO) (tm : TM) (id : Nat) (H : Heap) : Option Out :=  let cs := (x.evF tm).cells; bif Nat.beq cs.length sz then some (.val (.ptr id 0) ((id, ⟨ty, cs⟩) :: H)) else none
noncomputable def a_build (zero : List AV) (parts : List (Nat × Nat × AO)) (tm : TM) (id : Nat) (H : Heap) : Option Out :=  out H ((fillA zero (parts.map fun p => (p.1, p.2.1, (p.2.2.evF tm).cells))).map .agg)
noncomputable def a_buildSlice (ty : Nat) (esz : Nat) (len : Nat) (zero : List AV) (parts : List (Nat × Nat × AO)) (tm : TM) (id : Nat) (H : Heap) : Option Out :=
    match fillA (repA zero len) (parts.map fun p => (p.1, p.2.1, (p.2.2.evF tm).cells)) with
    | none => none
    | some cs => some (.val (.osl id 0 len esz len) ((id, ⟨ty, cs⟩) :: H))
noncomputable def a_load (agg : Bool) (sz : Nat) (x : AO) (tm : TM) (id : Nat) (H : Heap) : Option Out :=  out H (loadA H agg sz (x.evF tm))
noncomputable def a_store (sz : Nat) (a : AO) (x : AO) (tm : TM) (id : Nat) (H : Heap) : Option Out :=  (storeA H sz (a.evF tm) (x.evF tm)).map (.val aundef ·)
noncomputable def a_nilChk (x : AO) (tm : TM) (id : Nat) (H : Heap) : Option Out :=  match x.evF tm with
    | .ptr c off => some (.val (.ptr c off) H)
    | .eptr cs => some (.val (.eptr cs) H)
    | .fn g cs => some (.val (.fn g cs) H)
    | _ => none
noncomputable def a_bin (op : BinOp) (x : AO) (y : AO) (tm : TM) (id : Nat) (H : Heap) : Option Out :=  match x.evF tm, y.evF tm with
    | .v a, .v b => out H ((abinF op a b).map .v)
    | _, _ => none
noncomputable def a_beq (neg : Bool) (x : AO) (y : AO) (tm : TM) (id : Nat) (H : Heap) : Option Out :=  match x.evF tm, y.evF tm with
    | .v (.bool a), .v (.bool b) => some (.val (.v (.bool (bif neg then !(a == b) else a == b))) H)
    | _, _ => none
noncomputable def a_eqAgg (neg : Bool) (ks : List Nat) (x : AO) (y : AO) (tm : TM) (id : Nat) (H : Heap) : Option Out :=  match x.evF tm, y.evF tm with
    | .agg a, .agg b => out H ((eqCells ks a b).map fun r => .v (.bool (bif neg then !r else r)))
    | _, _ => none
noncomputable def a_eqNilS (neg : Bool) (x : AO) (tm : TM) (id : Nat) (H : Heap) : Option Out :=  match x.evF tm with
    | .v (.slice none _ _) => some (.val (.v (.bool !neg)) H)
    | .osl _ _ _ _ _ => some (.val (.v (.bool neg)) H)
    | .fsl _ _ => some (.val (.v (.bool neg)) H)
    | _ => none
noncomputable def a_eqNilP (neg : Bool) (x : AO) (tm : TM) (id : Nat) (H : Heap) : Option Out :=  match x.evF tm with
    | .v (.pointer none) => some (.val (.v (.bool !neg)) H)
    | .ptr _ _ => some (.val (.v (.bool neg)) H)
    | .eptr _ => some (.val (.v (.bool neg)) H)
    | _ => none
noncomputable def a_un (op : UnOp) (x : AO) (tm : TM) (id : Nat) (H : Heap) : Option Out :=  match x.evF tm with
    | .v a => out H ((aun op a).map .v)
    | _ => none
noncomputable def a_conv (k : IntKind) (x : AO) (tm : TM) (id : Nat) (H : Heap) : Option Out :=  match x.evF tm with
    | .v (.int _ n) => some (.val (.v (.int k (wrapF k n))) H)
    | _ => none
noncomputable def a_convS (x : AO) (tm : TM) (id : Nat) (H : Heap) : Option Out :=  match x.evF tm with
    | .v (.string s) => some (.val (.v (.string s)) H)
    | _ => none
noncomputable def a_b2s (x : AO) (tm : TM) (id : Nat) (H : Heap) : Option Out :=  match x.evF tm with
    | .v (.slice none _ _) => some (.val (.v (.string ⟨#[]⟩)) H)
    | .v _ => none
    | a => match lenA a with
      | none => none
      | some n => match elemsA H 1 n a with
        | none => none
        | some cs => out H ((bytesOf cs).map fun bs => .v (.string ⟨bs.toArray⟩))
noncomputable def a_s2b (x : AO) (tm : TM) (id : Nat) (H : Heap) : Option Out :=  match x.evF tm with
    | .v (.string s) => some (.val (.fsl s.size (cellsOfBytes s.data.toList)) H)
    | _ => none
noncomputable def a_mkfn (g : Nat) (caps : List AO) (tm : TM) (id : Nat) (H : Heap) : Option Out :=  some (.val (.fn g (caps.map (·.evF tm))) H)
noncomputable def a_mkslice (ty : Nat) (esz : Nat) (bytes : Nat) (zero : List AV) (len : AO) (cap : AO) (tm : TM) (id : Nat) (H : Heap) : Option Out :=  match intA (len.evF tm), intA (cap.evF tm) with
    | some l, some c =>
      if 0 ≤ l ∧ l ≤ c ∧ (bytes : Int) * c ≤ 140737488355328 ∧ c ≤ 140737488355328 then some (.val (.osl id 0 l.toNat esz c.toNat) ((id, ⟨ty, repA zero c.toNat⟩) :: H)) else none
    | _, _ => none
noncomputable def a_slice (esz : Nat) (x : AO) (lo : Option AO) (hi : Option AO) (mx : Option AO) (tm : TM) (id : Nat) (H : Heap) : Option Out :=  out H (sliceA esz (x.evF tm) (lo.map (·.evF tm)) (hi.map (·.evF tm)) (mx.map (·.evF tm)))
noncomputable def a_sliceS (x : AO) (lo : Option AO) (hi : Option AO) (tm : TM) (id : Nat) (H : Heap) : Option Out :=  out H (sliceSA (x.evF tm) (lo.map (·.evF tm)) (hi.map (·.evF tm)))
noncomputable def a_faddr (off : Nat) (x : AO) (tm : TM) (id : Nat) (H : Heap) : Option Out :=  out H (faddrA off (x.evF tm))
noncomputable def a_field (agg : Bool) (off : Nat) (sz : Nat) (x : AO) (tm : TM) (id : Nat) (H : Heap) : Option Out :=  match x.evF tm with
    | .agg cs => bif agg then (bif Nat.ble (off + sz) cs.length then some (.val (.agg ((cs.drop off).take sz)) H) else none) else out H cs[off]?
    | _ => none
noncomputable def a_iaddr (esz : Nat) (x : AO) (i : AO) (tm : TM) (id : Nat) (H : Heap) : Option Out :=  match intA (i.evF tm) with
    | none => none
    | some n => out H (iaddrA esz n (x.evF tm))
noncomputable def a_aaddr (esz : Nat) (len : Nat) (x : AO) (i : AO) (tm : TM) (id : Nat) (H : Heap) : Option Out :=  match intA (i.evF tm) with
    | none => none
    | some n => if 0 ≤ n ∧ n < len then out H (aaddrA esz n (x.evF tm)) else none
noncomputable def a_index (x : AO) (i : AO) (tm : TM) (id : Nat) (H : Heap) : Option Out :=  match x.evF tm, intA (i.evF tm) with
    | .v (.string s), some n => if 0 ≤ n then out H ((s.data.toList[n.toNat]?).map fun b => .v (.int .u8 b.toNat)) else none
    | _, _ => none
noncomputable def a_aindex (agg : Bool) (esz : Nat) (len : Nat) (x : AO) (i : AO) (tm : TM) (id : Nat) (H : Heap) : Option Out :=  match x.evF tm, intA (i.evF tm) with
    | .agg cs, some n => if 0 ≤ n ∧ n < len then
        (bif agg then (bif Nat.ble (n.toNat * esz + esz) cs.length then some (.val (.agg ((cs.drop (n.toNat * esz)).take esz)) H) else none) else out H cs[n.toNat * esz]?) else none
    | _, _ => none
noncomputable def a_ext (x : AO) (i : Nat) (tm : TM) (id : Nat) (H : Heap) : Option Out :=  match x.evF tm with
    | .tup vs => out H vs[i]?
    | _ => none
noncomputable def a_call (g : Nat) (args : List AO) (tm : TM) (id : Nat) (H : Heap) : Option Out :=  some (.call g (args.map (·.evF tm)))
noncomputable def a_callv (f : AO) (args : List AO) (tm : TM) (id : Nat) (H : Heap) : Option Out :=  match f.evF tm with
    | .fn g caps => some (.call g (args.map (·.evF tm) ++ caps))
    | _ => none
noncomputable def a_len (x : AO) (tm : TM) (id : Nat) (H : Heap) : Option Out :=  match x.evF tm with
    | .v (.string _) => none
    | a => out H ((lenA a).map fun n => .v (.int .i64 n))
noncomputable def a_lenS (x : AO) (tm : TM) (id : Nat) (H : Heap) : Option Out :=  match x.evF tm with
    | .v (.string s) => some (.val (.v (.int .i64 s.size)) H)
    | _ => none
noncomputable def a_append (ty : Nat) (esz : Nat) (bytes : Nat) (s : AO) (x : AO) (tm : TM) (id : Nat) (H : Heap) : Option Out :=  (appendA id ty esz bytes H (s.evF tm) (x.evF tm)).map fun p => .val p.1 p.2
noncomputable def a_copy (esz : Nat) (d : AO) (s : AO) (tm : TM) (id : Nat) (H : Heap) : Option Out :=  match dlenA (d.evF tm), lenA (s.evF tm) with
    | some dl, some sl =>
      let n := Nat.min sl dl
      match elemsA H esz n (s.evF tm) with
      | none => none
      | some cs => bif Nat.beq n 0 then some (.val (.v (.int .i64 0)) H) else
        match d.evF tm with
        | .osl c off _ e _ => match hget H c with
          | none => none
          | some ch => bif Nat.beq e esz && Nat.ble (off + n * esz) ch.cells.length && oneAll cs then some (.val (.v (.int .i64 n)) (hset H c { ch with cells := splice ch.cells off cs })) else none
        | _ => none
    | _, _ => none
noncomputable def a_clear (esz : Nat) (zero : List AV) (s : AO) (tm : TM) (id : Nat) (H : Heap) : Option Out :=  match s.evF tm with
    | .v (.slice none _ _) => some (.val aundef H)
    | .osl c off len e _ => bif Nat.beq len 0 then some (.val aundef H) else match hget H c with
      | none => none
      | some ch => bif Nat.beq e esz && Nat.beq zero.length esz && Nat.ble (off + len * esz) ch.cells.length && oneAll zero then some (.val aundef (hset H c { ch with cells := splice ch.cells off (repA zero len) })) else none
    | _ => none
noncomputable def a_max (xs : List AO) (tm : TM) (id : Nat) (H : Heap) : Option Out :=  out H (maxA true (xs.map (·.evF tm)))
noncomputable def a_min (xs : List AO) (tm : TM) (id : Nat) (H : Heap) : Option Out :=  out H (maxA false (xs.map (·.evF tm)))
noncomputable def a_bad  (tm : TM) (id : Nat) (H : Heap) : Option Out :=  none
noncomputable def aopF (op : AOp) : TM → Nat → Heap → Option Out :=
  match op with
  | .move x => a_move x
  | .pick c a b => a_pick c a b
  | .alloc ty zero => a_alloc ty zero
  | .box ty sz x => a_box ty sz x
  | .build zero parts => a_build zero parts
  | .buildSlice ty esz len zero parts => a_buildSlice ty esz len zero parts
  | .load agg sz x => a_load agg sz x
  | .store sz a x => a_store sz a x
  | .nilChk x => a_nilChk x
  | .bin op x y => a_bin op x y
  | .beq neg x y => a_beq neg x y
  | .eqAgg neg ks x y => a_eqAgg neg ks x y
  | .eqNilS neg x => a_eqNilS neg x
  | .eqNilP neg x => a_eqNilP neg x
  | .un op x => a_un op x
  | .conv k x => a_conv k x
  | .convS x => a_convS x
  | .b2s x => a_b2s x
  | .s2b x => a_s2b x
  | .mkfn g caps => a_mkfn g caps
  | .mkslice ty esz bytes zero len cap => a_mkslice ty esz bytes zero len cap
  | .slice esz x lo hi mx => a_slice esz x lo hi mx
  | .sliceS x lo hi => a_sliceS x lo hi
  | .faddr off x => a_faddr off x
  | .field agg off sz x => a_field agg off sz x
  | .iaddr esz x i => a_iaddr esz x i
  | .aaddr esz len x i => a_aaddr esz len x i
  | .index x i => a_index x i
  | .aindex agg esz len x i => a_aindex agg esz len x i
  | .ext x i => a_ext x i
  | .call g args => a_call g args
  | .callv f args => a_callv f args
  | .len x => a_len x
  | .lenS x => a_lenS x
  | .append ty esz bytes s x => a_append ty esz bytes s x
  | .copy esz d s => a_copy esz d s
  | .clear esz zero s => a_clear esz zero s
  | .max xs => a_max xs
  | .min xs => a_min xs
  | .bad  => a_bad 
theorem aopF_eq (op : AOp) (tm : TM) (id : Nat) (H : Heap) : aopF op tm id H = aop op tm id H := by
  cases op <;> simp only [aopF, aop, a_move, a_pick, a_alloc, a_box, a_build, a_buildSlice, a_load, a_store, a_nilChk, a_bin, a_beq, a_eqAgg, a_eqNilS, a_eqNilP, a_un, a_conv, a_convS, a_b2s, a_s2b, a_mkfn, a_mkslice, a_slice, a_sliceS, a_faddr, a_field, a_iaddr, a_aaddr, a_index, a_aindex, a_ext, a_call, a_callv, a_len, a_lenS, a_append, a_copy, a_clear, a_max, a_min, a_bad, evF_eq, abinF_eq, wrapF_eq] <;> rfl
end Go.Am
