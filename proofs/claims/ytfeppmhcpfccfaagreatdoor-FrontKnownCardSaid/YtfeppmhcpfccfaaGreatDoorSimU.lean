/- A verified evaluator, part U: each operation over the evaluator's memory. Of no program. -/
import Derived.Test.YtfeppmhcpfccfaaGreatDoorSimK
import Derived.Test.YtfeppmhcpfccfaaGreatDoorSimJ
import Derived.Lib.ConvBytes
import Derived.Laws.Externs
import Derived.KernelRfl
set_option linter.unusedVariables false
set_option linter.unusedSimpArgs false
namespace Go.Proofs.YtfeppmhcpfccfaaGreatDoor.Sim
open Go Go.RowKit
theorem run_yield {P : Program} {w : World} {t' : Operand → Value} {f : Operand} {args : Array Operand} {ts : Array TypeId} {dst : Option Tmp} {ty : TypeId} {pos : String} {after : Array Edge} {guard : Option (Nat × Bool)} {l : Nat} {r' : Loop}
    (hz : t' f = .func (.yield l) #[] #[]) (hg : w.heap[l]? = some (.loop r')) (hsz : args.size = r'.params.size) :
    (execOp t' ⟨dst, .call ⟨.value f, args, ts⟩, ty, pos, after, guard⟩).run P w = .ok (.round l r'.fn ((r'.params.zip (args.map t')).foldl (fun tmps (t, a) => tmps.setIfInBounds t a) r'.tmps) r'.assign r'.body) w := by
  have hgl : (Instr.getLoop l).run P w = .ok r' w := by simp [Instr.getLoop, getObj, Sem.run, hg, Result.andThen]
  have hy : (Instr.yield l (args.map t')).run P w = .ok (.round l r'.fn ((r'.params.zip (args.map t')).foldl (fun tmps (t, a) => tmps.setIfInBounds t a) r'.tmps) r'.assign r'.body) w := by
    simp [Instr.yield, hgl, Result.andThen, hsz]
  simp only [execOp, resolve, hz, Deferred.ofValue]
  have hi : invoke (.fn (.yield l) #[]) (#[] ++ args.map t') = Instr.yield l (args.map t') := by simp [invoke]
  show (invoke (.fn (.yield l) #[]) (#[] ++ args.map t')).run P w = _
  rw [hi]
  exact hy
theorem AR.fold {ρ : Ren} : ∀ (ps : List Tmp) (as as' : List Value) (u u' : Array Value), LR ρ as as' → AR ρ u u' →
    AR ρ ((ps.zip as).foldl (fun u x => u.setIfInBounds x.1 x.2) u) ((ps.zip as').foldl (fun u x => u.setIfInBounds x.1 x.2) u')
  | [], _, _, _, _, _, h => by simpa using h
  | _ :: _, [], [], _, _, _, h => by simpa using h
  | _ :: _, [], _ :: _, _, _, h, _ => by have := h.1; simp at this
  | _ :: _, _ :: _, [], _, _, h, _ => by have := h.1; simp at this
  | p :: ps, a :: as, a' :: as', u, u', h, hu => by
    simp only [List.zip_cons_cons, List.foldl_cons]
    exact AR.fold ps as as' _ _ ⟨by simpa using h.1, fun j x x' h1 h2 => h.2 (j + 1) x x' (by simpa using h1) (by simpa using h2)⟩ (hu.set _ (h.2 0 a a' rfl rfl))
theorem AR.foldA {ρ : Ren} (ps : Array Tmp) {as as' u u' : Array Value} (h : AR ρ as as') (hu : AR ρ u u') :
    AR ρ ((ps.zip as).foldl (fun tmps (t, a) => tmps.setIfInBounds t a) u) ((ps.zip as').foldl (fun tmps (t, a) => tmps.setIfInBounds t a) u') := by
  rw [← Array.foldl_toList, ← Array.foldl_toList, Array.toList_zip, Array.toList_zip]
  exact AR.fold ps.toList as.toList as'.toList u u' h.list hu
/-- a string's bytes, in a row that nothing writes -/
def convA (P : Program) (src dst : TypeId) (x : Value) (A : AW) : Option (Value × AW) :=
  match P.underlying src, P.underlying dst with
  | some .string, some (.slice e) => match x, P.underlying e, P.info? e with
    | .string s, some (.int .u8), some i => bif Nat.beq i.size 1 && A.room then some (.slice (some ⟨A.next, 0, none⟩) s.size s.size, A.add ⟨.cells (s.data.map fun b => .int .u8 b.toNat) e (0, 0), true, true⟩) else none
    | _, _, _ => none
  | _, _ => none
theorem bytesCells_size (w : World) (e : TypeId) (s : ByteArray) : (Lib.bytesCells w e s).size = grownCap w s.size 0 e := by
  have := grownCap_ge w s.size 0 e
  unfold Lib.bytesCells
  rw [Array.size_append, Array.size_map, Array.size_replicate]
  show s.size + _ = _
  omega
theorem convA_sound {P : Program} {B : Nat} {w0 : Base} {ρ : Ren} {A : AW} {w : World} (h : SR P B w0 ρ A w) {src dst : TypeId} {x x' : Value} (hx : VR ρ x x') {v : Value} {A' : AW} (ha : convA P src dst x A = some (v, A')) :
    ∃ ρ' v' w', (convert src dst x').run P w = .ok v' w' ∧ ρ.le ρ' ∧ SR P B w0 ρ' A' w' ∧ VR ρ' v v' := by
  unfold convA at ha
  split at ha
  rotate_left
  · cases ha
  rename_i e hs hd
  split at ha
  rotate_left
  · cases ha
  rename_i s i he hi
  cases hq : Nat.beq i.size 1 && A.room with
  | false => rw [hq] at ha; cases ha
  | true =>
    rw [hq, cond_true] at ha
    rw [Bool.and_eq_true] at hq
    injection ha with ha; injection ha with e1 e2; subst e1 e2
    have hsz : i.size = 1 := Tr.beq_iff.1 hq.1
    cases hx with
    | string =>
    have hr := Lib.run_convert_string_bytes (P := P) w src dst e s hs hd he
    have hcap := grownCap_ge w s.size 0 e
    have hbs := bytesCells_size w e s
    have hle := Ren.le_more (i := ⟨w.heap.size, true, true, 1, (Lib.bytesCells w e s).size, 0⟩) h.fresh
    have hfr : ∀ (u : World) (a : Addr), (u.freeze a 1).os = u.os ∧ (u.freeze a 1).tape = u.tape ∧ (u.freeze a 1).output = u.output := by
      intro u a
      unfold World.freeze
      rw [if_neg (by omega)]
      exact ⟨rfl, rfl, rfl⟩
    refine ⟨_, _, _, hr, hle, h.new hq.2 (i := ⟨w.heap.size, true, true, 1, (Lib.bytesCells w e s).size, 0⟩) (hfr _ _).1 (hfr _ _).2.1 (hfr _ _).2.2 (by rw [Lib.bytesWorld_size]; omega) (Nat.le_trans h.low h.below.size) (Lib.bytesWorld_at_new w e s)
      (fun k hk hlt => Lib.bytesWorld_at_old w e s k hlt) (fun b y j hb hj => Nat.ne_of_lt (h.old hb hj)) h.mkNew ?_, .slice (Ren.more_self _ _ _) (.inr ⟨rfl, hcap, by rw [hbs]; simp, Nat.one_pos, .inl rfl⟩)⟩
    refine .loose rfl rfl rfl ?_ (fun j v hv => ?_) (fun e => by cases e) ⟨i, hi, hsz⟩ (.inl rfl)
    · rw [hbs, Array.size_map]; exact hcap
    · have hj : j < (s.data.map fun b => Value.int .u8 b.toNat).size := (Array.getElem?_eq_some_iff.1 hv).1
      refine ⟨v, ?_, ?_⟩
      · have e0 : (Lib.bytesCells w e s)[j]? = some v := by
          unfold Lib.bytesCells
          rw [Array.getElem?_append_left hj]; exact hv
        exact e0
      · rw [Array.getElem?_map] at hv
        cases hb : s.data[j]? with
        | none => rw [hb] at hv; cases hv
        | some b => rw [hb] at hv; injection hv with hv; subst hv; exact .int _ _
/-- a map in an interface, copied -/
def cloneA (as : Array Value) (A : AW) : Option (Value × AW) := match as.toList with
  | [.iface ty (.map (some b))] => match A.heap.get b with
    | some ⟨.map es k, _, _⟩ => bif A.room then some (.iface ty (.map (some A.next)), A.add ⟨.map es k, false, false⟩) else none
    | _ => none
  | _ => none
def isClone (fn : Func) : Bool := fn.body.isNone && (fn.name == "maps.clone") && (fn.origin == "")
theorem clone_find {fn : Func} (h : isClone fn = true) : (fn.name == "runtime.NumGoroutine") = false ∧ fn.body.isNone = true ∧ Extern.findNext fn = none ∧ Extern.find fn = some Extern.MapsClone.clone := by
  unfold isClone at h
  simp only [Bool.and_eq_true, beq_iff_eq] at h
  obtain ⟨⟨h1, h2⟩, h3⟩ := h
  refine ⟨by rw [h2]; rfl, h1, ?_, ?_⟩
  · unfold Extern.findNext
    rw [h2, h3]
    kernel_rfl
  · unfold Extern.find
    rw [h2, h3]
    kernel_rfl
theorem run_clone {P : Program} {w : World} {r : Nat} {es : Array MapEntry} {clock : Nat} (t : TypeId) (hb : w.heap[r]? = some (.map es clock)) :
    (Extern.MapsClone.clone #[.iface t (.map (some r))]).run P w = .ok (.iface t (.map (some w.heap.size))) (w.alloc (.map es clock)) := by
  have e : Extern.MapsClone.clone #[.iface t (.map (some r))] = (getObj r >>= fun o => match o with
      | .map entries clock => (newObj (.map entries clock) >>= fun n => pure (.iface t (.map (some n))))
      | _ => stuck "maps.clone: a map expected") := rfl
  have hg : (getObj r).run P w = .ok (.map es clock) w := by simp [getObj, Sem.run, hb]
  rw [e]
  simp [hg, Result.andThen]
theorem cloneA_sound {P : Program} {B : Nat} {w0 : Base} {ρ : Ren} {A : AW} {w : World} (h : SR P B w0 ρ A w) {g : FuncId} {fn : Func} (hf : P.funcs[g]? = some fn) (hc : isClone fn = true) {as as' : Array Value} (hx : AR ρ as as') {v : Value} {A' : AW} (ha : cloneA as A = some (v, A')) :
    ∃ ρ' v' w', (callFunc g as').run P w = .ok (.value v') w' ∧ ρ.le ρ' ∧ SR P B w0 ρ' A' w' ∧ VR ρ' v v' := by
  unfold cloneA at ha
  split at ha
  rotate_left
  · cases ha
  rename_i ty b hq
  split at ha
  rotate_left
  · cases ha
  rename_i es k fam ro hb
  cases hr : A.room with
  | false => rw [hr] at ha; cases ha
  | true =>
    rw [hr, cond_true] at ha
    injection ha with ha; injection ha with e1 e2; subst e1 e2
    have has : as = #[.iface ty (.map (some b))] := by rw [← Array.toArray_toList (xs := as), hq]
    subst has
    obtain ⟨h1, h2, h3, h4⟩ := clone_find hc
    have hsz : as'.size = 1 := hx.1.symm
    obtain ⟨v', g1, g2⟩ := hx.at (j := 0) rfl
    have has' : as' = #[v'] := by
      apply Array.ext_getElem?
      intro j
      by_cases hj : j = 0
      · subst hj; rw [g1]; rfl
      · rw [Array.getElem?_eq_none (by omega), Array.getElem?_eq_none (by simp; omega)]
    subst has'
    cases g2 with
    | iface _ g3 =>
    cases g3 with
    | map hi =>
    rename_i i
    obtain ⟨_, o', hg, hor⟩ := h.blk b _ i hb hi
    cases hor with
    | map hro hs hrel =>
    rename_i es'
    have hle := Ren.le_more (i := ⟨w.heap.size, false, false, 0, 0, 0⟩) h.fresh
    refine ⟨_, .iface ty (.map (some w.heap.size)), w.alloc (.map es' k), ?_, hle, h.new hr (i := ⟨w.heap.size, false, false, 0, 0, 0⟩) (o' := .map es' k) rfl rfl rfl (by simp) (Nat.le_trans h.low h.below.size) (heap_alloc_new w _)
      (fun k hk hlt => heap_alloc_old w _ k hlt) (fun b y j hb hj => Nat.ne_of_lt (h.old hb hj)) h.mkNew (.map rfl hs fun j e e' q1 q2 => (hrel j e e' q1 q2).mono hle), .iface ty (.map (Ren.more_self _ _ _))⟩
    rw [run_callFunc_extern hf h1 h2 h3 h4, run_clone ty hg]
    rfl
def opA (P : Program) (t : Operand → Value) (o : Oper) (A : AW) : Option (AN × AW) :=
  bif okOp o then
    match o.op with
    | .alloc e => valA (runA P (Instr.alloc e true (.tuple #[])) A)
    | .box e x => valA (runA P (Instr.box e (t x)) A)
    | .buildSlice ty n ps => valA (buildSliceA P ty n (partsA t ps) A)
    | .makeMap _ none => valA (makeMapA A)
    | .range ty x => valA (rangeA P ty (t x) A)
    | .next x false => valA (nextA (t x) A)
    | .next x true => valA (nextSA (t x) A)
    | .entry x => match entryA (t x) A with
      | some v => some (.val v, A)
      | none => none
    | .call ⟨.builtin .delete, args, argTypes⟩ => match args.toList, argTypes.toList with
      | [x, k], [ty, _] => match deleteA P ty (t x) (t k) A with
        | some A' => some (.val (.tuple #[]), A')
        | none => none
      | _, _ => none
    | .call ⟨.builtin .clear, args, argTypes⟩ => match args.toList, argTypes.toList with
      | [x], [ty] => match clearA P ty (t x) A with
        | some A' => some (.val (.tuple #[]), A')
        | none => none
      | _, _ => none
    | .makeSlice ty l c => valA (makeSliceA P ty (t l) (t c) A)
    | .makeChan ty x => valA (makeChanA P ty (t x) A)
    | .mapEntry ty m k => valA (mapEntryA P ty (t m) (t k) A)
    | .entryStore _ m s x => match entryStoreA (t m) (t s) (t x) A with
      | some A' => some (.skip, A')
      | none => none
    | .call ⟨.builtin .copy, args, argTypes⟩ => match args.toList with
      | [x, y] => valA (copyA P argTypes (t x) (t y) A)
      | _ => none
    | .lookup ty x k ok => match lookupA P ty (t x) (t k) ok A with
      | some v => some (.val v, A)
      | none => none
    | .mapUpdate ty m k x | .insert ty m k x => match mapUpdateA P ty (t m) (t k) (t x) A with
      | some A' => some (.skip, A')
      | none => none
    | .convert src dst x => match convA P src dst (t x) A with
      | some r => valA (some r)
      | none => match opQ P t o with
        | some v => some (.val v, A)
        | none => none
    | .load ty a => valA (runA P (Instr.loadAt ty (t a)) A)
    | .store ty a x => match runA P (Instr.storeAt ty (t a) (t x)) A with
      | some (_, A') => some (.skip, A')
      | none => none
    | .call ⟨.value f, args, _⟩ => match t f with
      | .func (.func g) fs cs => match P.funcs[g]? with
        | some fn => bif fn.body.isSome then some (.enter g (fs ++ evs t args ++ cs), A) else bif isClone fn then valA (cloneA (fs ++ evs t args ++ cs) A) else none
        | none => none
      | .func (.yield b) _ _ => match A.heap.get b with
        | some ⟨.loop r, _, _⟩ => bif Nat.beq args.size r.params.size then some (.round b ((r.params.zip (evs t args)).foldl (fun tmps (p, a) => tmps.setIfInBounds p a) r.tmps) r.assign r.body, A) else none
        | _ => none
      | _ => none
    | .call ⟨.builtin .append, args, argTypes⟩ => match args.toList with
      | [s, x] => valA (appendA P argTypes (t s) (t x) A)
      | _ => none
    | .slice ty x lo hi (some mx) => match lo, hi with
      | none, some hi => match clipA P ty (t x) (t hi) (t mx) A with
        | some v => some (.val v, A)
        | none => none
      | _, _ => none
    | .slice ty x lo hi none => match t x with
      | .slice _ _ _ => match sliceA P ty (t x) (lo.map t) (hi.map t) A with
        | some v => some (.val v, A)
        | none => none
      | _ => match opQ P t o with
        | some v => some (.val v, A)
        | none => none
    | _ => match opQ P t o with
      | some v => some (.val v, A)
      | none => none
  else none

section
variable {P : Program} {B : Nat} {w0 : Base} {ρ : Ren} {A : AW} {w : World} {t t' : Operand → Value}
set_option maxHeartbeats 8000000 in
theorem opA_sound (G : Good P) (h : SR P B w0 ρ A w) {o : Oper} (ok : okOp o = true → ∀ x ∈ o.op.operands, VR ρ (t x) (t' x)) {n : AN} {A' : AW} (ha : opA P t o A = some (n, A')) : Does P B w0 ρ w (execOp t' o) n A' := by
  unfold opA at ha
  cases hko : okOp o with
  | false => rw [hko] at ha; cases ha
  | true =>
    rw [hko, cond_true] at ha
    replace ok := ok hko
    have qu : ∀ {n : AN} {A' : AW}, (match opQ P t o with | some v => some (AN.val v, A) | none => none) = some (n, A') → Does P B w0 ρ w (execOp t' o) n A' := by
      intro n A' ha
      cases hq : opQ P t o with
      | none => rw [hq] at ha; cases ha
      | some v =>
        rw [hq] at ha
        dsimp only at ha
        injection ha with ha; injection ha with h1 h2; subst h1 h2
        obtain ⟨v', g1, g2⟩ := opQ_sound G ok hq
        exact ⟨ρ, .value v', w, g2 w, Ren.le_refl _, h, g1⟩
    obtain ⟨dst, op, type, pos, after, guard⟩ := o
    replace ok : ∀ x, x ∈ op.operands → VR ρ (t x) (t' x) := ok
    cases op with
    | slice ty x lo hi mx =>
      cases mx with
      | some m =>
        cases lo with
        | some l => cases ha
        | none =>
          cases hi with
          | none => cases ha
          | some hi =>
            dsimp only at ha
            cases hsl : clipA P ty (t x) (t hi) (t m) A with
            | none => rw [hsl] at ha; cases ha
            | some v1 =>
              rw [hsl] at ha
              dsimp only at ha
              injection ha with ha; injection ha with h1 h2; subst h1 h2
              obtain ⟨v', g1, g3⟩ := clipA_sound h (ok x (by simp [Op.operands])) (ok hi (by simp [Op.operands])) (ok m (by simp [Op.operands])) hsl
              exact does_run (s' := Instr.sliceAt ty (t' x) none (some (t' hi)) (some (t' m))) (g1 w) (Ren.le_refl _) h g3
      | none =>
        dsimp only at ha
        split at ha
        · cases hsl : sliceA P ty (t x) (lo.map t) (hi.map t) A with
          | none => rw [hsl] at ha; cases ha
          | some v1 =>
            rw [hsl] at ha
            dsimp only at ha
            injection ha with ha; injection ha with h1 h2; subst h1 h2
            obtain ⟨v', g1, g3⟩ := sliceA_sound h (ok x (by simp [Op.operands])) (opt_rel lo (fun y hy => ok y (by simp [Op.operands, hy]))) (opt_rel hi (fun y hy => ok y (by simp [Op.operands, hy]))) hsl
            exact does_run (s' := Instr.sliceAt ty (t' x) (lo.map t') (hi.map t') none) (g1 w) (Ren.le_refl _) h g3
        · exact qu ha
    | makeMap ty r =>
      cases r with
      | some r => dsimp only at ha; exact qu ha
      | none =>
        dsimp only at ha
        exact does_slice (s' := Instr.makeMap ty none) ha fun v A1 hr => makeMapA_sound h ty hr
    | range ty x =>
      dsimp only at ha
      exact does_slice (s' := Instr.range ty (t' x)) ha fun v A1 hr => rangeA_sound h (ok x (by simp [Op.operands])) hr
    | next x q =>
      cases q with
      | true =>
        dsimp only at ha
        refine does_slice (s' := Instr.next (t' x) true type) ha fun v A1 hr => ?_
        obtain ⟨v', w', g1, g2, g3⟩ := nextSA_sound h (ok x (by simp [Op.operands])) type hr
        exact ⟨ρ, v', w', g1, Ren.le_refl _, g2, g3⟩
      | false =>
        dsimp only at ha
        refine does_slice (s' := Instr.next (t' x) false type) ha fun v A1 hr => ?_
        obtain ⟨v', w', g1, g2, g3⟩ := nextA_sound h (ok x (by simp [Op.operands])) type hr
        exact ⟨ρ, v', w', g1, Ren.le_refl _, g2, g3⟩
    | entry x =>
      dsimp only at ha
      cases hl : entryA (t x) A with
      | none => rw [hl] at ha; cases ha
      | some v1 =>
        rw [hl] at ha
        dsimp only at ha
        injection ha with ha; injection ha with h1 h2; subst h1 h2
        obtain ⟨v', g1, g3⟩ := entryA_sound h (ok x (by simp [Op.operands])) hl
        exact does_run (s' := Instr.entry (t' x)) g1 (Ren.le_refl _) h g3
    | makeSlice ty l c =>
      dsimp only at ha
      exact does_slice (s' := Instr.makeSlice ty (t' l) (t' c)) ha fun v A1 hr => makeSliceA_sound G.zeros h (ok l (by simp [Op.operands])) (ok c (by simp [Op.operands])) hr
    | makeChan ty x =>
      dsimp only at ha
      exact does_slice (s' := Instr.makeChan ty (t' x)) ha fun v A1 hr => makeChanA_sound h (ok x (by simp [Op.operands])) hr
    | mapEntry ty m k =>
      dsimp only at ha
      refine does_slice (s' := Instr.mapEntry ty (t' m) (t' k)) ha fun v A1 hr => ?_
      obtain ⟨v', w', g1, g2, g3⟩ := mapEntryA_sound G.zeros h (ok m (by simp [Op.operands])) (ok k (by simp [Op.operands])) hr
      exact ⟨ρ, v', w', g1, Ren.le_refl _, g2, g3⟩
    | entryStore ty m s x =>
      dsimp only at ha
      cases hl : entryStoreA (t m) (t s) (t x) A with
      | none => rw [hl] at ha; cases ha
      | some A1 =>
        rw [hl] at ha
        dsimp only at ha
        injection ha with ha; injection ha with h1 h2; subst h1 h2
        obtain ⟨w', g1, g3⟩ := entryStoreA_sound h ty (ok m (by simp [Op.operands])) (ok s (by simp [Op.operands])) (ok x (by simp [Op.operands])) hl
        exact ⟨ρ, .skip, w', by
          show (execOp t' ⟨dst, .entryStore ty m s x, type, pos, after, guard⟩).run P w = _
          simp only [execOp, Bind.bind]
          rw [run_bind P _ _ w w' () g1]; rfl, Ren.le_refl _, g3, trivial⟩
    | lookup ty x k q =>
      dsimp only at ha
      cases hl : lookupA P ty (t x) (t k) q A with
      | none => rw [hl] at ha; cases ha
      | some v1 =>
        rw [hl] at ha
        dsimp only at ha
        injection ha with ha; injection ha with h1 h2; subst h1 h2
        obtain ⟨v', g1, g3⟩ := lookupA_sound G.zeros h (ok x (by simp [Op.operands])) (ok k (by simp [Op.operands])) hl
        exact does_run (s' := Instr.lookup ty (t' x) (t' k) q) g1 (Ren.le_refl _) h g3
    | mapUpdate ty m k x =>
      dsimp only at ha
      cases hl : mapUpdateA P ty (t m) (t k) (t x) A with
      | none => rw [hl] at ha; cases ha
      | some A1 =>
        rw [hl] at ha
        dsimp only at ha
        injection ha with ha; injection ha with h1 h2; subst h1 h2
        obtain ⟨w', g1, g3⟩ := mapUpdateA_sound h (ok m (by simp [Op.operands])) (ok k (by simp [Op.operands])) (ok x (by simp [Op.operands])) hl
        exact ⟨ρ, .skip, w', by
          show (execOp t' ⟨dst, .mapUpdate ty m k x, type, pos, after, guard⟩).run P w = _
          simp only [execOp, Bind.bind]
          rw [run_bind P _ _ w w' () g1]; rfl, Ren.le_refl _, g3, trivial⟩
    | insert ty m k x =>
      dsimp only at ha
      cases hl : mapUpdateA P ty (t m) (t k) (t x) A with
      | none => rw [hl] at ha; cases ha
      | some A1 =>
        rw [hl] at ha
        dsimp only at ha
        injection ha with ha; injection ha with h1 h2; subst h1 h2
        obtain ⟨w', g1, g3⟩ := mapUpdateA_sound h (ok m (by simp [Op.operands])) (ok k (by simp [Op.operands])) (ok x (by simp [Op.operands])) hl
        exact ⟨ρ, .skip, w', by
          show (execOp t' ⟨dst, .insert ty m k x, type, pos, after, guard⟩).run P w = _
          simp only [execOp, Bind.bind]
          rw [run_bind P _ _ w w' () g1]; rfl, Ren.le_refl _, g3, trivial⟩
    | alloc e => exact does_val h (Sim.alloc G.zeros e) ha
    | box e x => exact does_val h (Sim.box (ok x (by simp [Op.operands])) e) ha
    | buildSlice ty k ps =>
      dsimp only at ha
      refine does_slice (s' := Instr.buildSlice ty k (ps.map fun (i, x) => (i, t' x))) ha fun v A1 hr => ?_
      have hpr : PR ρ (partsA t ps) (partsA t' ps) := parts_rel _ fun p hp => ok p.2 (by simp only [Op.operands]; exact List.mem_toArray.2 (List.mem_map.2 ⟨p, hp, rfl⟩))
      exact buildSliceA_sound (ps := ps.map fun (i, x) => (i, t' x)) G.zeros h (by rw [Array.toList_map]; exact hpr) hr
    | convert src dst x =>
      dsimp only at ha
      cases hc : convA P src dst (t x) A with
      | none => rw [hc] at ha; exact qu ha
      | some r =>
        rw [hc] at ha
        dsimp only at ha
        rw [← hc] at ha
        exact does_slice (s' := convert src dst (t' x)) ha fun v A1 hr => convA_sound h (ok x (by simp [Op.operands])) hr
    | load ty a => exact does_val h (Sim.loadAt (ok a (by simp [Op.operands])) ty) ha
    | store ty a x =>
      dsimp only at ha
      cases hr : runA P (Instr.storeAt ty (t a) (t x)) A with
      | none => rw [hr] at ha; cases ha
      | some z =>
        obtain ⟨u, A1⟩ := z
        rw [hr] at ha
        dsimp only at ha
        injection ha with ha; injection ha with h1 h2; subst h1 h2
        obtain ⟨ρ', b, w', g1, g2, g3, _⟩ := (Sim.storeAt (ok a (by simp [Op.operands])) (ok x (by simp [Op.operands])) ty).1 A w h u A1 hr
        exact ⟨ρ', .skip, w', by
          show (execOp t' ⟨dst, .store ty a x, type, pos, after, guard⟩).run P w = _
          simp only [execOp, Bind.bind]
          rw [run_bind P _ _ w w' b g1]; rfl, g2, g3, trivial⟩
    | call c =>
      obtain ⟨callee, args, argTypes⟩ := c
      cases callee with
      | value f =>
        dsimp only at ha
        have hf := ok f (by simp [Op.operands, Call.operands])
        have hargs : AR ρ (evs t args) (evs t' args) := evs_rel (fun x hx => ok x (by simp only [Op.operands, Call.operands]; exact Array.mem_append.2 (.inr hx)))
        split at ha
        rotate_left
        · rename_i b fs cs hq
          rw [hq] at hf
          split at ha
          rotate_left
          · cases ha
          rename_i r fam ro hb
          cases hsz : Nat.beq args.size r.params.size with
          | false => rw [hsz] at ha; cases ha
          | true =>
            rw [hsz, cond_true] at ha
            injection ha with ha; injection ha with h1 h2; subst h1 h2
            generalize hz : t' f = z at hf
            cases hf with
            | func _ hp => cases hp
            | yield hi =>
              rename_i i
              obtain ⟨_, o', hg, hor⟩ := h.blk b _ i hb hi
              cases hor with
              | loop hro hs hp ht hps ha2 hb2 =>
                rename_i r'
                refine ⟨ρ, .round i.g r'.fn ((r'.params.zip (args.map t')).foldl (fun tmps (p, a) => tmps.setIfInBounds p a) r'.tmps) r'.assign r'.body, w, run_yield hz hg (by rw [← hps]; exact Tr.beq_iff.1 hsz), Ren.le_refl _, h, ⟨i, hi, rfl⟩, ?_, ha2, hb2⟩
                rw [← hps, ← evs_eq]
                exact AR.foldA r.params hargs ht
        · cases ha
        rename_i g fs cs hq
        rw [hq] at hf
        cases hfn : P.funcs[g]? with
        | none => rw [hfn] at ha; cases ha
        | some fn =>
          rw [hfn] at ha
          dsimp only at ha
          cases hbd : fn.body.isSome with
          | false =>
            rw [hbd, cond_false] at ha
            cases hcl : isClone fn with
            | false => rw [hcl] at ha; cases ha
            | true =>
              rw [hcl, cond_true] at ha
              cases hA : cloneA (fs ++ evs t args ++ cs) A with
              | none => rw [hA] at ha; cases ha
              | some r =>
                obtain ⟨v1, A1⟩ := r
                rw [hA] at ha
                injection ha with ha; injection ha with h1 h2; subst h1 h2
                generalize hz : t' f = z at hf
                cases hf with
                | func _ hpl p1 p2 p3 p4 =>
                  rename_i f' c'
                  obtain ⟨ρ', v', w', g1, g2, g3, g4⟩ := cloneA_sound h hfn hcl (AR.append (AR.append ⟨p1, p2⟩ hargs) ⟨p3, p4⟩) hA
                  refine ⟨ρ', .value v', w', ?_, g2, g3, g4⟩
                  show (execOp t' ⟨dst, .call ⟨.value f, args, argTypes⟩, type, pos, after, guard⟩).run P w = _
                  simp only [execOp, resolve, hz, Deferred.ofValue]
                  rw [evs_eq] at g1
                  exact g1
          | true =>
            rw [hbd, cond_true] at ha
            injection ha with ha; injection ha with h1 h2; subst h1 h2
            generalize hz : t' f = z at hf
            cases hf with
            | func _ hpl p1 p2 p3 p4 =>
              rename_i f' c'
              have hn := G.names g fn hfn
              have hnb : fn.body.isNone = false := by
                cases hb2 : fn.body with
                | none => rw [hb2] at hbd; cases hbd
                | some b => rfl
              refine ⟨ρ, .enter g (f' ++ args.map t' ++ c'), w, ?_, Ren.le_refl _, h, rfl, ?_⟩
              · show (execOp t' ⟨dst, .call ⟨.value f, args, argTypes⟩, type, pos, after, guard⟩).run P w = _
                simp only [execOp, resolve, hz, Deferred.ofValue]
                show (callFunc g (f' ++ args.map t' ++ c')).run P w = _
                simp only [callFunc, Go.program, Bind.bind, Sem.bind, Sem.run, hfn, hn, hnb]
                rfl
              · rw [← evs_eq]
                exact (AR.append (AR.append ⟨p1, p2⟩ hargs) ⟨p3, p4⟩)
      | builtin b =>
        cases b with
        | append =>
          dsimp only at ha
          split at ha
          rotate_left
          · cases ha
          rename_i s x hq
          have hargs : args = #[s, x] := by rw [← Array.toArray_toList (xs := args), hq]
          subst hargs
          refine does_slice (s' := Builtin.append_ argTypes type ((#[s, x] : Array Operand).map t')) ha fun v A1 hr => ?_
          have hm : (#[s, x] : Array Operand).map t' = #[t' s, t' x] := by simp
          rw [hm]
          exact appendA_sound G.zeros h type (ok s (by simp [Op.operands, Call.operands])) (ok x (by simp [Op.operands, Call.operands])) hr
        | copy =>
          dsimp only at ha
          split at ha
          rotate_left
          · cases ha
          rename_i s x hq
          have hargs : args = #[s, x] := by rw [← Array.toArray_toList (xs := args), hq]
          subst hargs
          refine does_slice (s' := Builtin.copy_ argTypes type ((#[s, x] : Array Operand).map t')) ha fun v A1 hr => ?_
          have hm : (#[s, x] : Array Operand).map t' = #[t' s, t' x] := by simp
          rw [hm]
          exact copyA_sound h type (ok s (by simp [Op.operands, Call.operands])) (ok x (by simp [Op.operands, Call.operands])) hr
        | delete =>
          dsimp only at ha
          split at ha
          rotate_left
          · cases ha
          rename_i x k ty u hq1 hq2
          have hargs : args = #[x, k] := by rw [← Array.toArray_toList (xs := args), hq1]
          have htys : argTypes = #[ty, u] := by rw [← Array.toArray_toList (xs := argTypes), hq2]
          subst hargs htys
          cases hl : deleteA P ty (t x) (t k) A with
          | none => rw [hl] at ha; cases ha
          | some A1 =>
            rw [hl] at ha
            dsimp only at ha
            injection ha with ha; injection ha with h1 h2; subst h1 h2
            obtain ⟨w', g1, g3⟩ := deleteA_sound h u type (ok x (by simp [Op.operands, Call.operands])) (ok k (by simp [Op.operands, Call.operands])) hl
            have hm : (#[x, k] : Array Operand).map t' = #[t' x, t' k] := by simp
            have := does_run (ρ := ρ) (s' := Builtin.delete_ #[ty, u] type ((#[x, k] : Array Operand).map t')) (v := .tuple #[]) (by rw [hm]; exact g1) (Ren.le_refl _) g3 (VR.mkTuple (AR.empty ρ))
            exact this
        | clear =>
          dsimp only at ha
          split at ha
          rotate_left
          · cases ha
          rename_i x ty hq1 hq2
          have hargs : args = #[x] := by rw [← Array.toArray_toList (xs := args), hq1]
          have htys : argTypes = #[ty] := by rw [← Array.toArray_toList (xs := argTypes), hq2]
          subst hargs htys
          cases hl : clearA P ty (t x) A with
          | none => rw [hl] at ha; cases ha
          | some A1 =>
            rw [hl] at ha
            dsimp only at ha
            injection ha with ha; injection ha with h1 h2; subst h1 h2
            obtain ⟨ρ', w', g1, g2, g3⟩ := clearA_sound G.zeros h type (ok x (by simp [Op.operands, Call.operands])) hl
            have hm : (#[x] : Array Operand).map t' = #[t' x] := by simp
            have := does_run (ρ := ρ) (s' := Builtin.clear_ #[ty] type ((#[x] : Array Operand).map t')) (v := .tuple #[]) (by rw [hm]; exact g1) g2 g3 (VR.mkTuple (AR.empty ρ'))
            exact this
        | _ => dsimp only at ha; exact qu ha
      | _ => dsimp only at ha; exact qu ha
    | _ => dsimp only at ha; exact qu ha
end
end Go.Proofs.YtfeppmhcpfccfaaGreatDoor.Sim
