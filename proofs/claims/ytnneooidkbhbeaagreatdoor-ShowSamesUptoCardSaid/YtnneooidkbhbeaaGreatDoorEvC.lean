/- A fast evaluator, part C: a program's operations, regions, code, calls. Of no program. -/
import Derived.Test.YtnneooidkbhbeaaGreatDoorEvB
set_option linter.unusedVariables false
set_option linter.unusedSimpArgs false
namespace Go.Proofs.YtnneooidkbhbeaaGreatDoor.Fast
open Go Go.RowKit Go.Proofs.YtnneooidkbhbeaaGreatDoor.Sim
noncomputable section

/-- an operation, decoded -/
inductive OpD where
  | mk (c : Op1)
def OpD.get (x : OpD) : Op1 := OpD.rec (motive := fun _ => Op1) (fun c => c) x
/-- cells as a row -/
def rowOf : List Value → Nat → Ro → Ro
  | [], _, f => f
  | v :: l, i, f => rowOf l (i + 1) (Lr.set i (fvOf v) f)
def svOf (v : Value) : SV := match v with
  | .agg ⟨c⟩ => .row c.length (rowOf c 0 row0)
  | v => .val (fvOf v)
def svOk (v : Value) : Bool := match v with
  | .agg ⟨c⟩ => c.all oneB && Nat.ble c.length 64
  | .tuple _ => false
  | _ => true
def accT (n : Nat) (t : Tmp) : Option Acc := bif Nat.blt t n && Nat.ble n 512 then Wl.rec (motive := fun _ => Option Acc) (fun g _ => some g) (w512 SV t) else none
theorem accT_def (n : Nat) (t : Tmp) : accT n t = bif Nat.blt t n && Nat.ble n 512 then some (w512 SV t).get else none := by
  unfold accT
  generalize w512 SV t = w
  cases w
  rfl
def accOf (gl : Nat → Bool) (n : Nat) : Operand → Option Acc
  | .tmp t => accT n t
  | .const v => bif free v && svOk v then some (fun _ => svOf v) else none
  | .func f => some (fun _ => .val (.fn f [] []))
  | .global g => bif gl g then some (fun _ => .val (.ptr g 0)) else none
/-- keys of this kind: strings or integers -/
def keyB (P : Program) (t : TypeId) : Option (Option IntKind) := match P.underlying t with
  | some .string => some none
  | some (.int k) => some (some k)
  | _ => none
/-- an array's rows: how many, how long -/
def rowsOf (esz : Nat) : Nat → List Value → Nat → Rows → Rows
  | 0, _, _, r => r
  | m + 1, l, i, r => rowsOf esz m (l.drop esz) (i + 1) (Lw.set i (rowOf (l.take esz) 0 row0) r)
def shapeB (P : Program) (t : TypeId) : Nat × Nat := bif Nat.ble (sizeB P t) 64 then (1, sizeB P t) else match P.underlying t with
  | some (.array n e) => (n, sizeB P e)
  | _ => (0, 0)
section
variable (gl : Nat → Bool) (P : Program) (n : Nat)
def segB (t : TypeId) (off : Nat) (x : Operand) (r : Bd) : Option Bd := match accOf gl n x, aggB P t with
  | some a, some true => some (bAgg off (sizeB P t) a r)
  | some a, some false => bif Nat.beq (sizeB P t) 1 then some (bOne off a r) else none
  | _, _ => none
def partsB (N : Nat) (place : Nat → Option (Nat × TypeId)) : List (Nat × Operand) → Option Bd
  | [] => some bEnd
  | (i, x) :: l => match place i, partsB N place l with
    | some (off, t), some r => bif Nat.ble (off + sizeB P t) N then segB gl P n t off x r else none
    | _, _ => none
def segS (t : TypeId) (i : Nat) (x : Operand) (r : Bs) : Option Bs := match accOf gl n x, aggB P t with
  | some a, some true => some (sAgg i (sizeB P t) a r)
  | some a, some false => bif Nat.beq (sizeB P t) 1 then some (sOne i a r) else none
  | _, _ => none
def partsS (e : TypeId) (len : Nat) : List (Nat × Operand) → Option Bs
  | [] => some sEnd
  | (i, x) :: l => match bif Nat.blt i len then some () else none, partsS e len l with
    | some _, some r => segS gl P n e i x r
    | _, _ => none
def asOf : List Operand → Option As
  | [] => some asEnd
  | x :: l => match accOf gl n x, asOf l with
    | some a, some r => some (asOne a r)
    | _, _ => none
def agOf : List Operand → Nat → Option Ag
  | [], _ => some gEnd
  | x :: l, i => match accOf gl n x, agOf l (i + 1) with
    | some a, some r => bif Nat.blt i 512 then some (gOne i a r) else none
    | _, _ => none
def ahOf : List Operand → Option Ah
  | [] => some hEnd
  | x :: l => match accOf gl n x, ahOf l with
    | some a, some r => some (hOne a r)
    | _, _ => none
def boOf : Option Operand → Option Bo
  | none => some boNo
  | some x => match accOf gl n x with
    | some a => some (boAt a)
    | none => none
def xsOf : List Operand → Option Xs
  | [] => some xEnd
  | .tmp t :: l => match accT n t, xsOf l with
    | some a, some r => some (xOne t a r)
    | _, _ => none
  | _ :: l => xsOf l
def slowD (o : Oper) : OpD := match xsOf n o.op.operands.toList with
  | some X => .mk (rSlow P o X)
  | none => .mk rBad
def slowOf (o : Oper) : Op1 := (slowD P n o).get
def cmpOf : BinOp → Option (Int → Int → Bool)
  | .eql => some intEq
  | .neq => some fun a b => Bool.not (intEq a b)
  | .lss => some intLt
  | .gtr => some fun a b => intLt b a
  | .leq => some fun a b => Bool.not (intLt b a)
  | .geq => some fun a b => Bool.not (intLt a b)
  | _ => none
def arithOf : BinOp → Option (IntKind → Int → Int → (Int → R) → R)
  | .add => some addI
  | .sub => some subI
  | .mul => some mulI
  | _ => none
def binD (o : Oper) (op : BinOp) (ty : TypeId) (x y : Operand) : OpD := match accOf gl n x, accOf gl n y, P.underlying ty with
  | some a, some b, some (.int _) => match cmpOf op, arithOf op with
    | some f, _ => .mk (rCmp f a b)
    | _, some f => .mk (rArith f a b)
    | _, _ => slowD P n o
  | some a, some b, some .string => match op with
    | .eql => .mk (rStrEq false a b)
    | .neq => .mk (rStrEq true a b)
    | .add => .mk (rCat a b)
    | _ => slowD P n o
  | _, _, _ => slowD P n o
def binOf (o : Oper) (op : BinOp) (ty : TypeId) (x y : Operand) : Op1 := (binD gl P n o op ty x y).get
def bldD (g : FuncId) : List Operand → Option OpD
  | [x] => match accOf gl n x with
    | some a => match ckT P g with
      | some te => some (.mk (rCk te a))
      | none => match tkT P g with
        | some te => match byteT P te with
          | some tb => some (.mk (rTk te tb a))
          | none => none
        | none => none
    | none => none
  | _ => none
/-- what copies a map -/
def cloneT (P : Program) (g : FuncId) : Bool := match P.funcs[g]? with
  | some fn => isClone fn
  | none => false
def cloneD (g : FuncId) : List Operand → Option OpD
  | [x] => bif cloneT P g then match accOf gl n x with
      | some a => some (.mk (rClone a))
      | none => none
    else none
  | _ => none
def decD (o : Oper) : OpD := match o.op with
  | .move x | .assign x => match accOf gl n x with
    | some a => .mk (rMove a)
    | none => .mk rBad
  | .pick c x y => match accOf gl n c, accOf gl n x, accOf gl n y with
    | some c, some x, some y => .mk (rPick c x y)
    | _, _, _ => .mk rBad
  | .load ty x => match accOf gl n x, aggB P ty with
    | some a, some true => .mk (rLoadN (sizeB P ty) a)
    | some a, some false => .mk (rLoad a)
    | _, _ => .mk rBad
  | .store ty x y => match accOf gl n x, accOf gl n y, aggB P ty with
    | some a, some b, some true => bif Nat.beq (sizeB P ty) 0 then .mk rBad else .mk (rStoreN (sizeB P ty) a b)
    | some a, some b, some false => bif Nat.beq (sizeB P ty) 1 then .mk (rStore a b) else .mk rBad
    | _, _, _ => .mk rBad
  | .alloc e => match zeroB P e, shapeB P e with
    | some z, (m, s) => bif Nat.beq (m * s) z.length && Nat.ble m 512 && Nat.ble s 64 && Nat.blt 0 s then .mk (rAlloc (rowsOf s m z 0 rows0) m s e) else .mk rBad
    | _, _ => .mk rBad
  | .box e x => match accOf gl n x, aggB P e with
    | some a, some true => bif Nat.beq (sizeB P e) 0 || Nat.blt 64 (sizeB P e) then .mk rBad else .mk (rBoxN (sizeB P e) e a)
    | some a, some false => .mk (rBox e a)
    | _, _ => .mk rBad
  | .fieldAddr s x f => match accOf gl n x, P.underlying s with
    | some a, some (.struct fs) => match fs[f]? with
      | some fd => bif Nat.beq (sizeB P fd.type) 0 then .mk rBad else .mk (rFieldAddr fd.offset a)
      | none => .mk rBad
    | _, _ => .mk rBad
  | .field s x f => match accOf gl n x, P.underlying s with
    | some a, some (.struct fs) => match fs[f]? with
      | some fd => match aggB P fd.type with
        | some true => .mk (rFieldN fd.offset (sizeB P fd.type) a)
        | some false => .mk (rField fd.offset a)
        | none => .mk rBad
      | none => .mk rBad
    | _, _ => .mk rBad
  | .extract x i => match accOf gl n x with
    | some a => .mk (rExtract i a)
    | none => .mk rBad
  | .binOp op ty x y _ => binD gl P n o op ty x y
  | .unOp .not _ x => match accOf gl n x with
    | some a => .mk (rNot a)
    | none => .mk rBad
  | .nilCheck x => match accOf gl n x with
    | some a => .mk (rNilCheck a)
    | none => .mk rBad
  | .indexAddr ty x y => match accOf gl n x, accOf gl n y, P.underlying ty with
    | some a, some b, some (.slice e) => bif Nat.beq (sizeB P e) 0 then .mk rBad else .mk (rIndexAddr (sizeB P e) a b)
    | some a, some b, some (.array len e) => bif Nat.beq (sizeB P e) 0 then .mk rBad else .mk (rIndexArr len (sizeB P e) a b)
    | _, _, _ => slowD P n o
  | .index ty x y => match accOf gl n x, accOf gl n y, P.underlying ty with
    | some a, some b, some .string => .mk (rByte a b)
    | _, _, _ => slowD P n o
  | .build ty ps => match P.underlying ty, zeroB P ty with
    | some (.struct fs), some z => bif Nat.ble z.length 64 && (fs.toList.mapM fun f => (P.info? f.type).map fun i => (f.offset, i.size)).isSome then match partsB gl P n z.length (fun i => match fs[i]? with | some f => some (f.offset, f.type) | none => none) ps.toList with
        | some b => .mk (rBuild (rowOf z 0 row0) z.length b)
        | none => slowD P n o
      else .mk rBad
    | some (.array len e), some z => bif Nat.ble z.length 64 && (P.info? e).isSome then match partsB gl P n z.length (fun i => bif Nat.blt i len then some (i * sizeB P e, e) else none) ps.toList with
        | some b => .mk (rBuild (rowOf z 0 row0) z.length b)
        | none => slowD P n o
      else .mk rBad
    | _, _ => slowD P n o
  | .buildSlice ty len ps => match P.underlying ty with
    | some (.slice e) => match zeroB P e, partsS gl P n e len ps.toList with
      | some z, some s => bif Nat.ble len 512 && Nat.ble z.length 64 then .mk (rBuildSlice (rowOf z 0 row0) s len z.length e) else .mk rBad
      | _, _ => .mk rBad
    | _ => .mk rBad
  | .makeFunc (.func g) f c => match asOf gl n f.toList, asOf gl n c.toList with
    | some f, some c => .mk (rFunc g f c)
    | _, _ => .mk rBad
  | .slice ty x lo hi (some mx) => match lo, hi with
    | none, some hi => match P.underlying ty, accOf gl n x, boOf gl n (some hi), boOf gl n (some mx) with
      | some (.slice e), some a, some h, some m => bif (P.info? e).isSome then .mk (rClip a h m) else .mk rBad
      | _, _, _, _ => .mk rBad
    | _, _ => .mk rBad
  | .slice ty x lo hi none => match P.underlying ty, accOf gl n x, boOf gl n lo, boOf gl n hi with
    | some (.slice e), some a, some lo, some hi => match P.info? e with
      | some i => .mk (rSlice e i.size a lo hi)
      | none => .mk rBad
    | some .string, some a, some lo, some hi => .mk (rSub a lo hi)
    | _, _, _, _ => slowD P n o
  | .convert src dst x => match P.underlying src, P.underlying dst with
    | some .string, some (.slice e) => match accOf gl n x, P.underlying e, P.info? e with
      | some a, some (.int .u8), some i => bif loudB o && Nat.beq i.size 1 then .mk (rBytes e a) else .mk rBad
      | _, _, _ => .mk rBad
    | _, _ => slowD P n o
  | .makeMap _ none => .mk rMakeMap
  | .range ty x => match P.underlying ty, accOf gl n x with
    | some (.map _ _), some a => .mk (rRange a)
    | some .string, some a => .mk (rRangeS a)
    | _, _ => .mk rBad
  | .next x false => match accOf gl n x with
    | some a => .mk (rNext a)
    | none => .mk rBad
  | .next x true => match accOf gl n x with
    | some a => .mk (rNextS a)
    | none => .mk rBad
  | .entry x => match accOf gl n x with
    | some a => .mk (rEntry a)
    | none => .mk rBad
  | .call ⟨.builtin .clear, args, ts⟩ => match args.toList, ts.toList with
    | [x], [t] => match accOf gl n x, P.underlying t with
      | some a, some (.slice e) => match zeroB P e with
        | some z => bif Nat.ble z.length 64 then .mk (rClear (rowOf z 0 row0) z.length a) else .mk rBad
        | none => .mk rBad
      | _, _ => .mk rBad
    | _, _ => .mk rBad
  | .call ⟨.builtin .delete, args, ts⟩ => match args.toList, ts.toList with
    | [x, y], [t, _] => match accOf gl n x, accOf gl n y, P.underlying t with
      | some a, some b, some (.map kt _) => match keyB P kt with
        | some str => .mk (rDelete str a b)
        | none => .mk rBad
      | _, _, _ => .mk rBad
    | _, _ => .mk rBad
  | .makeSlice ty x y => match P.underlying ty, accOf gl n x, accOf gl n y with
    | some (.slice e), some a, some b => match zeroB P e, P.info? e with
      | some z, some i => bif Nat.ble z.length 64 then .mk (rMakeSlice (rowOf z 0 row0) z.length i.bytes e a b) else .mk rBad
      | _, _ => .mk rBad
    | _, _, _ => .mk rBad
  | .lookup ty x y ok => match P.underlying ty, accOf gl n x, accOf gl n y with
    | some (.map kt e), some a, some b => match keyB P kt, P.info? e with
      | some str, some ie => match ie.zero with
        | some z => bif svOk z then .mk (rLookup str (svOf z) ok a b) else .mk rBad
        | none => .mk rBad
      | _, _ => .mk rBad
    | _, _, _ => .mk rBad
  | .mapUpdate ty x y z | .insert ty x y z => match P.underlying ty, accOf gl n x, accOf gl n y, accOf gl n z with
    | some (.map kt _), some a, some b, some c => match keyB P kt with
      | some str => .mk (rMapUpdate str a b c)
      | none => .mk rBad
    | _, _, _, _ => .mk rBad
  | .call ⟨.value f, args, _⟩ => match f with
    | .func g => match bldD gl P n g args.toList with
      | some d => d
      | none => match cloneD gl P n g args.toList with
        | some d => d
        | none => match agOf gl n args.toList 0 with
          | some s => bif hasB P g then .mk (rCallF g s) else .mk rBad
          | none => .mk rBad
    | f => match accOf gl n f, ahOf gl n args.toList with
      | some a, some s => .mk (rCallV P a s)
      | _, _ => .mk rBad
  | .call ⟨.builtin .append, args, ts⟩ => match args.toList, ts.toList with
    | [x, y], [t, u] => bif Nat.beq t u then match accOf gl n x, accOf gl n y, P.underlying t with
        | some a, some b, some (.slice e) => match zeroB P e, P.info? e with
          | some _, some i => bif Nat.ble i.size 64 then .mk (rAppend e (sizeB P e) i.bytes a b) else .mk rBad
          | _, _ => .mk rBad
        | _, _, _ => .mk rBad
      else match accOf gl n x, accOf gl n y, P.underlying t, P.underlying u with
        | some a, some b, some (.slice e), some .string => match zeroB P e, P.info? e with
          | some _, some i => bif Nat.beq i.size 1 then .mk (rAppStr e i.bytes a b) else .mk rBad
          | _, _ => .mk rBad
        | _, _, _, _ => .mk rBad
    | _, _ => .mk rBad
  | .call ⟨.builtin .len, args, ts⟩ => match args.toList, ts.toList with
    | [x], [t] => match accOf gl n x, P.underlying t with
      | some a, some (.slice _) => .mk (rLen a)
      | some a, some .string => .mk (rLenS a)
      | some a, some (.map _ _) => .mk (rLenM a (slowOf P n o))
      | _, _ => .mk rBad
    | _, _ => .mk rBad
  | _ => slowD P n o
def decOp (o : Oper) : Op1 := (decD gl P n o).get
end

/-- what is done of a region, in order -/
abbrev RS := Rc → Sl → FM → (Sl → FM → R) → R
inductive Stp where
  | mk (f : RS)
def runS (l : List Stp) : RS := List.rec (motive := fun _ => RS) (fun _ L F k => k L F) (fun s _ ih rec L F k => Stp.rec (motive := fun _ => R) (fun f => f rec L F fun L F => pass (ih rec L F k)) s) l
def rsBad : RS := fun _ _ _ _ => bad
def putS (d : Option Tmp) (c : Op1) : RS := match d with
  | none => fun rec L F k => c rec L F fun _ F => k L F
  | some d => fun rec L F k => c rec L F fun v F => (w512 SV d).put v L fun L => k L F
def guardOf (n : Nat) (ops : Array Oper) (o : Oper) (c : Op1) : Op1 := match o.guard with
  | none => c
  | some (g, want) => match ops[g]? with
    | some q => match q.dst with
      | some t => match accT n t with
        | some a => rGuard a want c
        | none => rBad
      | none => rBad
    | none => rBad
def dstB (n : Nat) : Option Tmp → Bool
  | none => true
  | some d => Nat.blt d n
/-- what makes a block has a slot for it -/
def ghOk (o : Oper) : Bool := match o.op with
  | .alloc _ | .box _ _ | .buildSlice _ _ _ | .makeSlice _ _ _ => o.dst.isSome
  | _ => true
def stepOf (gl : Nat → Bool) (P : Program) (n : Nat) (ops : Array Oper) (i : Nat) : RS := match ops[i]? with
  | none => rsBad
  | some o => bif dstB n o.dst && Nat.ble n 512 && okOp o && glOp gl o && ghOk o then putS o.dst (guardOf n ops o (decOp gl P n o)) else rsBad
/-- what was read is read again -/
def eqF (x y : FV) : Bool := match x, y with
  | .bool a, .bool b => Bool.rec (motive := fun _ => Bool) (Bool.not b) b a
  | .int i a, .int j b => Nat.beq (kix i) (kix j) && intEq a b
  | .str n z, .str m w => Nat.beq n m && Nat.beq z w
  | .ptr b o, .ptr c p => Nat.beq b c && Nat.beq o p
  | .slc b o n c, .slc b' o' n' c' => Nat.beq b b' && Nat.beq o o' && Nat.beq n n' && Nat.beq c c'
  | .nilS n c, .nilS m d => Nat.beq n m && Nat.beq c d
  | .fn g f c, .fn g' f' c' => Nat.beq g g' && eqV.eqL (eqV 8) f f' && eqV.eqL (eqV 8) c c'
  | .map b, .map c => Nat.beq b c
  | .val v, .val w => eqV 8 v w
  | _, _ => false
def eqRow (m : Nat) : Nat → Ro → Ro → Bool := Nat.rec (motive := fun _ => Nat → Ro → Ro → Bool) (fun _ _ _ => true) (fun _ ih i f g => eqF ((w64 FV i).get f) ((w64 FV i).get g) && ih (Nat.succ i) f g) m
def eqS (x y : SV) : Bool := match x, y with
  | .val a, .val b => eqF a b
  | .row n f, .row m g => Nat.beq n m && Nat.ble n 64 && eqRow n 0 f g
  | _, _ => false
def againOf (gl : Nat → Bool) (P : Program) (n : Nat) (ops : Array Oper) : List Nat → RS
  | [] => fun _ L F k => k L F
  | j :: l => match ops[j]? with
    | some o => match o.dst with
      | some t => match accT n t with
        | some a => bif okOp o && glOp gl o && memK o && !loudB o then fun rec L F k => guardOf n ops o (fun rec L F k => decOp gl P n o rec L F fun v F => ifK (eqS v (a L)) (k v F) bad) rec L F fun _ F => pass (againOf gl P n ops l rec L F k) else rsBad
        | _ => rsBad
      | none => rsBad
    | none => rsBad
def thenS (a b : RS) : RS := fun rec L F k => a rec L F fun L F => pass (b rec L F k)
/-- an operation of a region -/
structure OI where
  i : Nat
  dep : Nat
  anc : Nat
  loud : Bool
  mem : Bool
def depOf : List Edge → Nat
  | [] => 0
  | e :: es => bif Region.binds .any e then Nat.lor (depOf es) (Nat.pow 2 e.on) else depOf es
def ancL (l : List Oper) : List Nat → List Nat := List.rec (motive := fun _ => List Nat → List Nat) (fun acc => acc) (fun o _ ih acc => ih (acc ++ [ancOf (fun k => acc.getD k 0) o.after.toList])) l
def asgB (o : Oper) : Bool := match o.op with
  | .assign _ => true
  | _ => false
/-- an assignment to what was read ahead of it: it is planned as a loud operation -/
def ownB (ops : Array Oper) (anc : Nat) (o : Oper) : Bool := match asgB o, o.dst with
  | true, some d => (List.range ops.size).any fun k => Nat.testBit anc k && namesB ops k d
  | _, _ => false
def oisOf (ops : Array Oper) : List Oper → List Nat → Nat → List OI
  | o :: l, a :: r, i => ⟨i, depOf o.after.toList, a, loudB o || ownB ops a o, memK o⟩ :: oisOf ops l r (Nat.succ i)
  | _, _, _ => []
def sub (a b : Nat) : Bool := Nat.beq (Nat.land a b) a
def notIn (E i : Nat) : Bool := Nat.beq (Nat.land E (Nat.pow 2 i)) 0
def quietsOf (E : Nat) (l : List OI) : Nat := List.rec (motive := fun _ => Nat → Nat) (fun E => E) (fun x _ ih E => ih (bif !x.loud && notIn E x.i && sub x.dep E then Nat.lor E (Nat.pow 2 x.i) else E)) l E
def quietsL (l : List OI) : Nat → List PS → List PS := List.rec (motive := fun _ => Nat → List PS → List PS) (fun _ r => r) (fun x _ ih E r => bif !x.loud && notIn E x.i && sub x.dep E then .quiet x.i :: ih (Nat.lor E (Nat.pow 2 x.i)) r else ih E r) l
def loudsR (E : Nat) : List OI → List OI
  | [] => []
  | x :: l => bif x.loud && notIn E x.i && sub x.dep E then x :: loudsR E l else loudsR E l
def reOf (E : Nat) (x : OI) : List OI → List Nat
  | [] => []
  | y :: l => bif y.mem && !notIn E y.i && notIn x.anc y.i then y.i :: reOf E x l else reOf E x l
def planOf (all : List OI) : Nat → Nat → List PS
  | 0, _ => []
  | m + 1, E => quietsL all E (match loudsR (quietsOf E all) all with
    | [x] => .loud x.i (reOf (quietsOf E all) x all) :: planOf all m (Nat.lor (quietsOf E all) (Nat.pow 2 x.i))
    | [x, y] => .pair x.i y.i (reOf (quietsOf E all) x all) (reOf (quietsOf E all) y all) :: planOf all m (Nat.lor (Nat.lor (quietsOf E all) (Nat.pow 2 x.i)) (Nat.pow 2 y.i))
    | _ => [])
/-- two stores that meet nowhere, in either order -/
def bothK (x y : R) : R := Bool.rec (motive := fun _ => R) bad y x
def apartK (x y : SV) (m1 m2 : Nat) (k : R) : R := ptrK x fun b1 o1 => ptrK y fun b2 o2 => ifK (Nat.blt b1 32768 && Nat.blt b2 32768 && Nat.blt 0 m1 && Nat.blt 0 m2 && (Bool.not (Nat.beq b1 b2) || Nat.ble (Nat.add o1 m1) o2 || Nat.ble (Nat.add o2 m2) o1)) k bad
def pairOf (gl : Nat → Bool) (P : Program) (n : Nat) (ops : Array Oper) (i j : Nat) (ri rj : List Nat) : RS := match ops[i]?, ops[j]? with
  | some o1, some o2 => match o1.op, o2.op with
    | .store s1 x1 _, .store s2 x2 _ => match accOf gl n x1, accOf gl n x2 with
      | some a1, some a2 => bif o1.guard.isNone && o2.guard.isNone && o1.dst.isNone && o2.dst.isNone then fun rec L F k => apartK (a1 L) (a2 L) (sizeB P s1) (sizeB P s2)
          (bothK (stepOf gl P n ops j rec L F fun L F => pass (againOf gl P n ops rj rec L F fun L F => pass (stepOf gl P n ops i rec L F fun L F => pass (againOf gl P n ops ri rec L F fun _ _ => true))))
            (stepOf gl P n ops i rec L F fun L F => pass (againOf gl P n ops ri rec L F fun L F => pass (stepOf gl P n ops j rec L F fun L F => pass (againOf gl P n ops rj rec L F k)))))
        else rsBad
      | _, _ => rsBad
    | _, _ => rsBad
  | _, _ => rsBad
def planStp (gl : Nat → Bool) (P : Program) (n : Nat) (ops : Array Oper) : List PS → List Stp
  | [] => []
  | .quiet i :: s => .mk (stepOf gl P n ops i) :: planStp gl P n ops s
  | .loud i re :: s => .mk (match re with | [] => stepOf gl P n ops i | re => thenS (stepOf gl P n ops i) (againOf gl P n ops re)) :: planStp gl P n ops s
  | .pair i j ri rj :: s => .mk (pairOf gl P n ops i j ri rj) :: planStp gl P n ops s
def kindOk (ops : Array Oper) : PS → Bool
  | .quiet i => match ops[i]? with | some o => !loudB o | none => false
  | .loud i _ => match ops[i]? with | some o => loudB o || asgB o | none => false
  | .pair _ _ _ _ => true
def regOf (gl : Nat → Bool) (P : Program) (n : Nat) (ops : Array Oper) (draw : Bool) : List Stp :=
  bif draw then
    (fun anc => (fun p => bif ancOk ops (fun k => anc.getD k 0) && okPlan ops (fun k => anc.getD k 0) p 0 && p.all (kindOk ops) then planStp gl P n ops p else [.mk rsBad])
      (planOf (oisOf ops ops.toList anc 0) (ops.size + 1) 0)) (ancL ops.toList [])
  else (List.range ops.size).map fun i => .mk (stepOf gl P n ops i)

inductive CD where
  | skip
  | region (s : List Stp)
  | seq (a b : CD)
  | cond (x : Acc) (a b : CD)
  | block (id : Nat) (a : CD)
  | loop (a : CD)
  | exit (id : Nat)
  | ret
  | bad
  | range (x : Acc) (hb : Nat → Bool) (n : Nat) (ps : List Nat) (a b : Code)
/-- no range over a function stands in it -/
def noRange : Code → Bool
  | .seq a b => noRange a && noRange b
  | .cond _ a b => noRange a && noRange b
  | .block _ b => noRange b
  | .loop b => noRange b
  | .scope b => noRange b
  | .rangeFunc _ _ _ _ => false
  | _ => true
def compC (gl : Nat → Bool) (P : Program) (n : Nat) : Code → CD
  | .skip => .skip
  | .label _ => .skip
  | .region _ ops draw => .region (regOf gl P n ops draw)
  | .seq a b => .seq (compC gl P n a) (compC gl P n b)
  | .cond x a b => match accOf gl n x with
    | some y => .cond y (compC gl P n a) (compC gl P n b)
    | none => .bad
  | .block id b => .block id (compC gl P n b)
  | .loop b => .loop (compC gl P n b)
  | .scope b => compC gl P n b
  | .exit id => .exit id
  | .ret => .ret
  | .rangeFunc g ps a b => match accOf gl n g with
    | some y => .range y (hasB P) n ps.toList a b
    | none => .bad
  | _ => .bad
/-- a result -/
inductive Res where
  | val (x : Acc)
  | one (x : Acc)
  | agg (n : Nat) (x : Acc)
def resOf (P : Program) (n : Nat) : List ResultVar → Option (List Res)
  | [] => some []
  | .tmp t :: l => match accT n t, resOf P n l with
    | some a, some r => some (.val a :: r)
    | _, _ => none
  | .cell t ty :: l => match accT n t, aggB P ty, resOf P n l with
    | some a, some true, some r => some (.agg (sizeB P ty) a :: r)
    | some a, some false, some r => some (.one a :: r)
    | _, _, _ => none
/-- a body whose statements may defer calls -/
inductive CE where
  | code (c : CD)
  | seq (a b : CE)
  | dfr (s : List Stp) (f : Acc) (a : Ah)
  | bad
/-- the call that a region's last operation defers -/
def lastD (gl : Nat → Bool) (ops : Array Oper) : Option (Operand × List Operand) := match ops[ops.size - 1]? with
  | some o => match o.op with
    | .defer ⟨.value f, args, _⟩ => bif o.guard.isNone && o.dst.isNone && okOp o && glOp gl o then some (f, args.toList) else none
    | _ => none
  | none => none
def defersB (gl : Nat → Bool) : Code → Bool
  | .seq a b => defersB gl a || defersB gl b
  | .region _ ops _ => (lastD gl ops).isSome
  | _ => false
def dfrOf (gl : Nat → Bool) (P : Program) (n : Nat) (ops : Array Oper) : CE := match lastD gl ops with
  | some (f, xs) => match accOf gl n f, ahOf gl n xs with
    | some a, some s => .dfr ((List.range (ops.size - 1)).map fun i => .mk (stepOf gl P n ops i)) a s
    | _, _ => .bad
  | none => .bad
def compE (gl : Nat → Bool) (P : Program) (n : Nat) : Code → CE
  | .seq a b => .seq (compE gl P n a) (compE gl P n b)
  | .region id ops draw => bif (lastD gl ops).isSome then (bif draw then .bad else dfrOf gl P n ops) else .code (compC gl P n (.region id ops draw))
  | c => .code (compC gl P n c)
inductive FnD where
  | mk (code : CD) (res : List Res)
  | dfr (code : CE) (res : List Res)
  | bad
def decFn (gl : Nat → Bool) (P : Program) (f : FuncId) : FnD := match P.funcs[f]? with
  | some fn => match fn.body with
    | some c => match resOf P fn.ntmps fn.results.toList with
      | some r => bif Nat.ble fn.ntmps 512 then (bif defersB gl c then .dfr (compE gl P fn.ntmps c) r else .mk (compC gl P fn.ntmps c) r) else .bad
      | none => .bad
    | none => .bad
  | none => .bad

abbrev Kc := AE → Sl → FM → R
def loopK (n : Nat) (b : Sl → FM → Kc → R) : Sl → FM → Kc → R := Nat.rec (motive := fun _ => Sl → FM → Kc → R) (fun _ _ _ => Fast.bad)
  (fun _ ih M F K => b M F fun e M F => AE.rec (motive := fun _ => R) (pass (ih M F K)) (fun i => K (.exit i) M F) (K .ret M F) e) n
/-- a range over a function: the function is called with the loop's yield -/
def rangeK (x : Acc) (hb : Nat → Bool) (n : Nat) (ps : List Nat) (a b : Code) (rec : Rc) (M : Sl) (F : FM) (K : Kc) : R := funK (x M) fun g fs cs => ifK (isNil fs) (ifK (hb g) (newF (.loop M n ps a b 0 .normal) F fun l F =>
  (w512 SV 0).put (.val (.val (.func (.yield l) #[] #[]))) slots0 fun s => argsL cs 1 s fun _ s => rec g s F fun _ F => lpK l F fun L n ps a b st pend => ifK (Bool.not (Nat.beq st 1)) (putF l (.loop L n ps a b 3 pend) F fun F =>
    AE.rec (motive := fun _ => R) (K .normal M F) (fun id => K (.exit id) M F) (K .ret M F) pend) bad) bad) bad
def runC (fuel : Nat) (rec : Rc) (c : CD) : Sl → FM → Kc → R := CD.rec (motive := fun _ => Sl → FM → Kc → R)
  (fun M F K => K .normal M F)
  (fun s M F K => runS s rec M F fun M F => K .normal M F)
  (fun _ _ iha ihb M F K => iha M F fun e M F => AE.rec (motive := fun _ => R) (pass (ihb M F K)) (fun i => K (.exit i) M F) (K .ret M F) e)
  (fun x _ _ iha ihb M F K => boolK (x M) fun b => ifK b (iha M F K) (ihb M F K))
  (fun id _ ih M F K => ih M F fun e M F => AE.rec (motive := fun _ => R) (K .normal M F) (fun i => ifK (Nat.beq i id) (K .normal M F) (K (.exit i) M F)) (K .ret M F) e)
  (fun _ ih => loopK fuel ih)
  (fun id M F K => K (.exit id) M F)
  (fun M F K => K .ret M F)
  (fun _ _ _ => Fast.bad)
  (fun x hb n ps a b M F K => rangeK x hb n ps a b rec M F K) c
def resK (l : List Res) : Sl → FM → (SV → R) → R := List.rec (motive := fun _ => Sl → FM → (SV → R) → R) (fun _ _ k => k .nil)
  (fun r _ ih M F k => Res.rec (motive := fun _ => R) (fun x => hd1 (x M) fun v => ih M F fun r => k (.cons v r))
    (fun x => ptrK (x M) fun b o => blkK b F fun rows n esz _ _ _ => inB o n esz (fvF ((wCell o esz).get rows) fun u => ih M F fun r => k (.cons (.val u) r)))
    (fun m x => ptrK (x M) fun b o => blkK b F fun rows n esz _ _ _ => subK o m n esz rows fun u => ih M F fun r => k (.cons (.row m u) r)) r) l
def oneRes (l : SV) (k : SV → R) : R := SV.rec (motive := fun _ => R) (fun _ => Fast.bad) (fun _ _ => Fast.bad) (k .nil) (fun a b _ _ => SV.rec (motive := fun _ => R) (fun _ => Fast.bad) (fun _ _ => Fast.bad) (k a) (fun c d _ _ => k (.cons a (.cons c d))) b) l
/-- yield's arguments, where the loop wants them -/
def setPs (n : Nat) (S : Sl) (ps : List Nat) : Nat → Sl → (Sl → R) → R := List.rec (motive := fun _ => Nat → Sl → (Sl → R) → R) (fun _ L k => k L)
  (fun p _ ih j L k => ifK (Nat.blt p n) (ifK (Nat.blt j 512) (svF ((w512 SV j).get S) fun v => (w512 SV p).put v L fun L => num (Nat.succ j) fun j => ih j L k) bad) bad) ps
/-- a round of a loop -/
def roundC (cmp : Nat → Code → CD) (run : CD → Sl → FM → Kc → R) (b : Nat) (S : Sl) (F : FM) (k : SV → FM → R) : R := lpK b F fun L n ps a bd st _ => ifK (Nat.beq st 0) (ifK (Nat.ble n 512) (ifK (noRange a) (ifK (noRange bd) (setPs n S ps 0 L fun L1 => run (cmp n a) L1 F fun e L2 F =>
  AE.rec (motive := fun _ => R) (lpK b F fun L n' ps a' b' st pend => ifK (Nat.beq st 0) (putF b (.loop L n' ps a' b' 1 pend) F fun F => run (cmp n bd) L2 F fun e _ F => lpK b F fun L n' ps a' b' _ _ =>
    AE.rec (motive := fun _ => R) (putF b (.loop L n' ps a' b' 0 .normal) F fun F => k (.val (.bool true)) F) (fun id => putF b (.loop L n' ps a' b' 2 (.exit id)) F fun F => k (.val (.bool false)) F) (putF b (.loop L n' ps a' b' 2 .ret) F fun F => k (.val (.bool false)) F) e) bad)
    (fun _ => bad) bad e) bad) bad) bad) bad
/-- with the calls that wait, newest first -/
abbrev Ke := AE → Sl → FM → List (FuncId × Sl) → R
def runE (P : Program) (fuel : Nat) (rec : Rc) (c : CE) : Sl → FM → List (FuncId × Sl) → Ke → R := CE.rec (motive := fun _ => Sl → FM → List (FuncId × Sl) → Ke → R)
  (fun c M F D K => runC fuel rec c M F fun e M F => K e M F D)
  (fun _ _ iha ihb M F D K => iha M F D fun e M F D => AE.rec (motive := fun _ => R) (pass (ihb M F D K)) (fun i => K (.exit i) M F D) (K .ret M F D) e)
  (fun s f a M F D K => runS s rec M F fun M F => valK (f M) fun v => callV v (fun g fs cs => ifK (hasB P g) (argsL fs 0 slots0 fun i S => a M i S fun i S => argsL cs i S fun _ S => K .normal M F ((g, S) :: D)) Fast.bad) (fun _ => Fast.bad))
  (fun _ _ _ _ => Fast.bad) c
def leaveE (rec : Rc) (D : List (FuncId × Sl)) : FM → (FM → R) → R := List.rec (motive := fun _ => FM → (FM → R) → R) (fun F k => k F)
  (fun x _ ih F k => Prod.rec (motive := fun _ => R) (fun g S => num (Nat.add dB g) fun q => rec q S F fun _ F => ih F k) x) D
/-- a call's body, or a round, or a deferred call's body -/
def endK (res : List Res) (k : SV → FM → R) (e : AE) (M : Sl) (F : FM) : R := AE.rec (motive := fun _ => R) (resK res M F fun l => oneRes l fun v => k v F) (fun _ => Fast.bad) (resK res M F fun l => oneRes l fun v => k v F) e
def endE (rec : Rc) (res : List Res) (k : SV → FM → R) (e : AE) (M : Sl) (F : FM) (D : List (FuncId × Sl)) : R := AE.rec (motive := fun _ => R) (leaveE rec D F fun F => resK res M F fun l => oneRes l fun v => k v F) (fun _ => Fast.bad) (leaveE rec D F fun F => resK res M F fun l => oneRes l fun v => k v F) e
def bodyK (gl : Nat → Bool) (P : Program) (fuel : Nat) (ih : Rc) : Rc := fun f L F k => Bool.rec (motive := fun _ => R)
  (FnD.rec (motive := fun _ => R) (fun code res => pass (runC fuel ih code L F (endK res k))) (fun code res => pass (runE P fuel ih code L F [] (endE ih res k))) Fast.bad (decFn gl P f))
  (Bool.rec (motive := fun _ => R) (num (Nat.sub f yB) fun b => pass (roundC (compC gl P) (runC fuel ih) b L F k))
    (num (Nat.sub f dB) fun g => FnD.rec (motive := fun _ => R) (fun code res => pass (runC fuel ih code L F (endK res k))) (fun _ _ => Fast.bad) Fast.bad (decFn gl P g)) (Nat.ble dB f)) (Nat.ble yB f)
def callK (gl : Nat → Bool) (P : Program) (fuel : Nat) (n : Nat) : Rc := Nat.rec (motive := fun _ => Rc) (fun _ _ _ _ => Fast.bad) (fun _ ih => bodyK gl P fuel ih) n
def emptyF : FM := ⟨heap0, 0⟩
def noGl : Nat → Bool := fun _ => false
/-- a call from nothing answers true -/
def saysTrue (P : Program) (fuel n : Nat) (f : FuncId) : R := callK noGl P fuel n f slots0 emptyF fun v _ => boolK v fun b => b
end
end Go.Proofs.YtnneooidkbhbeaaGreatDoor.Fast
