/- A part of a proof: Walk and Length are as specified for all roads and arcs (statement DrivesWalkedUptoCardSaid) -/
import Derived.Test.YtjhfhacdjmokaaaGreatDoorDwGlM
set_option linter.unusedSimpArgs false
set_option linter.unusedVariables false
set_option linter.unusedSectionVars false
namespace Go.GL
open Go Go.RowKit
variable {P : Program}
def Enters (P : Program) (n : Nat) : Prop := ∃ fn, P.funcs[n]? = some fn ∧ (fn.name == "runtime.NumGoroutine") = false ∧ fn.body.isNone = false
theorem gwp_callFunc {n : Nat} (h : Enters P n) (args : Array Value) (G : GH) (K : Next → GH → Prop) : gwp P (callFunc n args) G K = K (.enter n args) G := by
  obtain ⟨fn, hf, h1, h2⟩ := h
  unfold callFunc
  rw [gwp_bind, gwp_program, hf]
  dsimp only
  rw [if_neg (by rw [h1]; simp), if_neg (by rw [h2]; simp)]
  rfl
def Det (F : GH → (Value → GH → Prop) → Prop) (v : Value) : Prop := ∀ G K, F G K = K v G
open Classical in
noncomputable def det (F : GH → (Value → GH → Prop) → Prop) : Option Value := if h : ∃ v, Det F v then some h.choose else none
theorem det_some {F : GH → (Value → GH → Prop) → Prop} {v : Value} (h : Det F v) : det F = some v := by
  have hx : ∃ v, Det F v := ⟨v, h⟩
  unfold det
  rw [dif_pos hx]
  have := hx.choose_spec (fun _ => none) (fun u _ => u = v)
  rw [h] at this
  simp at this
  rw [← this]
theorem det_none {F : GH → (Value → GH → Prop) → Prop} (h : ∀ G K, F G K = False) : det F = none := by
  unfold det
  rw [dif_neg]
  rintro ⟨v, hv⟩
  have h1 := h (fun _ => none) (fun _ _ => True)
  rw [hv] at h1
  simp at h1
theorem det_spec {F : GH → (Value → GH → Prop) → Prop} {v : Value} (h : det F = some v) : Det F v := by
  unfold det at h
  split at h
  · rename_i hx; cases h; exact hx.choose_spec
  · cases h
noncomputable def pvB (P : Program) (op : BinOp) (T : TypeId) (x y : Operand) (a b : Value) : Option Value := det fun G K => gwp P (do eqGuard op T x y a b; binOp op T a b) G K
noncomputable def pvU (P : Program) (op : UnOp) (a : Value) : Option Value := det fun G K => gwp P (Op.unary op a) G K
noncomputable def pvConv (P : Program) (s d : TypeId) (a : Value) : Option Value := det fun G K => gwp P (convert s d a) G K
noncomputable def pvTA (P : Program) (T A : TypeId) (x : Value) : Option Value := det fun G K => gwp P (Instr.typeAssert x T A false) G K
noncomputable def pvIface (P : Program) (T : TypeId) (a : Value) : Option Value := det fun G K => gwp P (Instr.makeInterface T a) G K
noncomputable def pvSlice (P : Program) (T : TypeId) (x : Value) (l h m : Option Value) : Option Value := det fun G K => gwp P (Instr.sliceAt T x l h m) G K
noncomputable def pvBuild (P : Program) (T : TypeId) (ps : List (Nat × Value)) : Option Value := det fun G K => gwp P (Instr.build T ps.toArray) G K
noncomputable def pvField (P : Program) (S : TypeId) (x : Value) (i : Nat) : Option Value := det fun G K => gwp P (Instr.field S x i) G K
noncomputable def pvFA (P : Program) (S : TypeId) (x : Value) (i : Nat) : Option Value := det fun G K => gwp P (Instr.fieldAt S x i) G K
noncomputable def pvIA (P : Program) (T : TypeId) (x i : Value) : Option Value := det fun G K => gwp P (Instr.indexAt T x i) G K
noncomputable def pvI (P : Program) (T : TypeId) (x i : Value) : Option Value := det fun G K => gwp P (Instr.index T x i) G K
noncomputable def pvB1 (P : Program) (b : Builtin) (ts : List TypeId) (xs : List Value) : Option Value :=
  match b with
  | .len => det fun G K => gwp P (Builtin.len_ ts.toArray 0 xs.toArray) G K
  | .cap => det fun G K => gwp P (Builtin.cap_ ts.toArray 0 xs.toArray) G K
  | .max => det fun G K => gwp P (Builtin.max_ ts.toArray 0 xs.toArray) G K
  | .min => det fun G K => gwp P (Builtin.min_ ts.toArray 0 xs.toArray) G K
  | _ => none
def pvX (x : Value) (i : Nat) : Option Value := match x with | .tuple vs => vs.toList[i]? | _ => none
def pvPick (c a b : Value) : Option Value := match c with | .bool t => some (if t then a else b) | _ => none
def pvNil (x : Value) : Option Value := match x with | .pointer (some _) => some x | .func (.func _) _ _ => some x | _ => none
noncomputable def pvLoad (P : Program) (T : TypeId) (p : Value) (G : GH) : Option Value :=
  match p with
  | .pointer (some a) =>
    match (tyD P T).map isAggD with
    | some true => if 0 < tySz P T then (gcells G a (tySz P T)).map fun cs => .agg cs.toArray else none
    | some false => gcell G a
    | none => none
  | _ => none
def vpure (o : Option Value) (G : GH) (K : Value → GH → Prop) : Prop := match o with | some v => K v G | none => False
noncomputable def pvLen (P : Program) (ts : List TypeId) (vs : List Value) (G : GH) : Option Value :=
  match vs with
  | [.map (some r)] =>
    match ts with
    | [t] => match tyD P t, G r with
      | some (.map _ _), some (.map es _, _) => some (.int .i64 es.size)
      | _, _ => none
    | _ => none
  | vs => pvB1 P .len ts vs
def vnew (o : Obj) (G : GH) (K : Nat → GH → Prop) : Prop := ∀ r, G r = none → K r (G.put r (o, true))
def vset (a : Addr) (vs : List Value) (G : GH) (K : GH → Prop) : Prop :=
  a.spot = none ∧ ∃ c e, G a.block = some (.cells c e (0, 0), true) ∧ a.off + vs.length ≤ c.size ∧ K (G.put a.block (.cells (setCells c a.off vs) e (0, 0), true))
def vstore (P : Program) (T : TypeId) (p v : Value) (G : GH) (K : GH → Prop) : Prop :=
  match p with
  | .pointer (some a) => (0 < tySz P T ∧ v.cells.size = tySz P T ∧ v.cells.toList.all oneV = true) ∧ vset a v.cells.toList G K
  | _ => False
def valloc (P : Program) (T : TypeId) (G : GH) (K : Nat → GH → Prop) : Prop :=
  match tyZ P T with
  | some z => vnew (.cells z.cells T (0, 0)) G K
  | none => False
def vcall (P : Program) (fv : Value) (args : List Value) (G : GH) (K : Value → GH → Prop) : Prop :=
  match fv with
  | .func (.func n) first captured => Enters P n ∧ GCalls P n (first ++ args.toArray ++ captured) G K
  | _ => False
def bsCells (P : Program) (T : TypeId) (n : Nat) (ps : List (Nat × Value)) : Option (List Value × TypeId) :=
  match tyD P T with
  | some (.slice e) =>
    if 0 < tySz P e ∧ n * tySz P e ≤ 2 ^ 24 then
      match (if n * tySz P e = 0 then some #[] else (tyZ P e).map fun z => z.cells) with
      | some zero => (Instr.fill (fun i => some (i * tySz P e, tySz P e)) ((Array.range (n * tySz P e)).map (zero[· % zero.size]!)) ps).map fun c => (c.toList, e)
      | none => none
    else none
  | _ => none
def vbs (c : Option (List Value × TypeId)) (n : Nat) (G : GH) (K : Value → GH → Prop) : Prop :=
  match c with
  | some c => vnew (.cells c.1.toArray c.2 (0, 0)) G (fun r G' => K (.slice (some ⟨r, 0, none⟩) n n) G')
  | none => False
def msCells (P : Program) (T : TypeId) (x y : Value) : Option (Nat × Nat × Array Value × TypeId) :=
  match x, y with
  | .int _ n, .int _ c =>
    match tyD P T with
    | some (.slice e) =>
      match tyZ P e with
      | some z => if 0 < tySz P e ∧ z.cells.size = tySz P e ∧ tyBytes P e ≤ 4096 ∧ 0 ≤ n ∧ n ≤ c ∧ c ≤ 1073741824 then some (n.toNat, c.toNat, Builtin.zeroCells z.cells c.toNat, e) else none
      | none => none
    | _ => none
  | _, _ => none
def vms (m : Option (Nat × Nat × Array Value × TypeId)) (G : GH) (K : Value → GH → Prop) : Prop :=
  match m with
  | some (n, c, cs, e) => vnew (.cells cs e (0, 0)) G (fun r G' => K (.slice (some ⟨r, 0, none⟩) n c) G')
  | none => False
def vop (P : Program) (o : Oper) (f : Fr) (G : GH) (K : Value → GH → Prop) : Prop :=
  match o.op with
  | .move x | .assign x => K (ev f x) G
  | .pick c a b => vpure (pvPick (ev f c) (ev f a) (ev f b)) G K
  | .alloc T => valloc P T G (fun r G' => K (.pointer (some ⟨r, 0, none⟩)) G')
  | .box T x => vnew (.cells (ev f x).cells T (0, 0)) G (fun r G' => K (.pointer (some ⟨r, 0, none⟩)) G')
  | .load T p => vpure (pvLoad P T (ev f p) G) G K
  | .store T p x => vstore P T (ev f p) (ev f x) G (fun G' => K undef G')
  | .nilCheck x => vpure (pvNil (ev f x)) G K
  | .binOp op T x y _ => vpure (pvB P op T x y (ev f x) (ev f y)) G K
  | .unOp op _ x => vpure (pvU P op (ev f x)) G K
  | .convert s d x => vpure (pvConv P s d (ev f x)) G K
  | .makeInterface T x => vpure (pvIface P T (ev f x)) G K
  | .slice T x l h m => vpure (pvSlice P T (ev f x) (l.map (ev f)) (h.map (ev f)) (m.map (ev f))) G K
  | .build T ps => vpure (pvBuild P T (ps.toList.map fun p => (p.1, ev f p.2))) G K
  | .buildSlice T n ps => vbs (bsCells P T n (ps.toList.map fun p => (p.1, ev f p.2))) n G K
  | .makeFunc fn first captured => K (.func fn (first.map (ev f)) (captured.map (ev f))) G
  | .makeSlice T x y => vms (msCells P T (ev f x) (ev f y)) G K
  | .makeMap _ none => vnew (.map #[] 0) G (fun r G' => K (.map (some r)) G')
  | .fieldAddr S x i => vpure (pvFA P S (ev f x) i) G K
  | .field S x i => vpure (pvField P S (ev f x) i) G K
  | .indexAddr T x i => vpure (pvIA P T (ev f x) (ev f i)) G K
  | .index T x i => vpure (pvI P T (ev f x) (ev f i)) G K
  | .extract t i => vpure (pvX (ev f t) i) G K
  | .lookup T m k ok => vpure (pvLook P T (ev f m) (ev f k) ok G) G K
  | .mapEntry T m k => vment P T (ev f m) (ev f k) G K
  | .entryStore _ m t x => ventry (ev f m) (ev f t) (ev f x) G (fun G' => K undef G')
  | .mapUpdate T m k x => vmupd P T (ev f m) (ev f k) (ev f x) G (fun G' => K undef G')
  | .typeAssert x T A ok => if ok = true then gop P o f G K else vpure (pvTA P T A (ev f x)) G K
  | .call c =>
    match c.callee with
    | .value g => vcall P (ev f g) (c.args.toList.map (ev f)) G K
    | .builtin .len => vpure (pvLen P c.argTypes.toList (c.args.toList.map (ev f)) G) G K
    | .builtin .cap => vpure (pvB1 P .cap c.argTypes.toList (c.args.toList.map (ev f))) G K
    | .builtin .max => vpure (pvB1 P .max c.argTypes.toList (c.args.toList.map (ev f))) G K
    | .builtin .min => vpure (pvB1 P .min c.argTypes.toList (c.args.toList.map (ev f))) G K
    | _ => gop P o f G K
  | _ => gop P o f G K
theorem gwp_buildSlice {T : TypeId} {n : Nat} {ps : List (Nat × Value)} {G : GH} {K : Value → GH → Prop} (h : vbs (bsCells P T n ps) n G K) : gwp P (Instr.buildSlice T n ps.toArray) G K := by
  cases hc : bsCells P T n ps with
  | none => rw [hc] at h; exact h.elim
  | some c =>
    rw [hc] at h
    simp only [vbs] at h
    unfold bsCells at hc
    cases hd : tyD P T with
    | none => simp only [hd] at hc; cases hc
    | some d =>
      simp only [hd] at hc
      cases d <;> dsimp only at hc <;> try cases hc
      rename_i el
      by_cases hz : 0 < tySz P el ∧ n * tySz P el ≤ 2 ^ 24
      · rw [if_pos hz] at hc
        unfold Instr.buildSlice
        rw [gwp_bind, gwp_underlying _ _ _ hd]
        rw [gwp_bind, gwp_sizeOf _ _ _ hz.1]
        rw [if_neg (Nat.not_lt.2 hz.2)]
        by_cases h0 : n * tySz P el = 0
        · rw [if_pos h0] at hc
          rw [if_pos h0]
          dsimp only at hc
          rw [Option.map_eq_some_iff] at hc
          obtain ⟨cells, hfill, rfl⟩ := hc
          rw [gwp_bind, gwp_pure]
          dsimp only
          rw [hfill]
          intro r hr; exact h r hr
        · rw [if_neg h0] at hc
          rw [if_neg h0]
          cases hzv : tyZ P el with
          | none => simp only [hzv, Option.map_none] at hc; cases hc
          | some z =>
            simp only [hzv, Option.map_some] at hc
            rw [Option.map_eq_some_iff] at hc
            obtain ⟨cells, hfill, rfl⟩ := hc
            rw [gwp_bind, gwp_zeroValue _ _ _ hzv, gwp_bind, gwp_pure]
            dsimp only
            rw [hfill]
            intro r hr; exact h r hr
      · rw [if_neg hz] at hc; cases hc
theorem msW {n : Int} (h : 0 ≤ n) (h2 : n ≤ 1073741824) : IntKind.i64.wrap n = n := by
  have e : n % 2 ^ IntKind.i64.bits = n := by show n % 2 ^ 64 = n; omega
  unfold IntKind.wrap
  rw [e, if_neg]
  show ¬ (true && decide (n ≥ 2 ^ 63)) = true
  simp; omega
theorem gwp_makeSlice {T : TypeId} {x y : Value} {G : GH} {K : Value → GH → Prop} (h : vms (msCells P T x y) G K) : gwp P (Instr.makeSlice T x y) G K := by
  unfold msCells at h
  split at h
  · rename_i k n k' c
    split at h
    · rename_i e hT
      split at h
      · rename_i z hz
        split at h
        · rename_i hf
          obtain ⟨h1, h2, h3, h4, h5, h6⟩ := hf
          obtain ⟨i, hi, hisz⟩ := info_some (P := P) (t := e) h1
          have hib : i.bytes = tyBytes P e := by unfold tyBytes; rw [hi]; rfl
          unfold Instr.makeSlice
          rw [gwp_bind, gwp_underlying _ _ _ hT]
          have hl : IntKind.i64.wrap n = n := msW (by omega) (by omega)
          have hc : IntKind.i64.wrap c = c := msW (by omega) (by omega)
          have hb : ¬ ((tyBytes P e : Int) * c > 2 ^ 48) := by
            have : (tyBytes P e : Int) * c ≤ 4096 * 1073741824 := Int.mul_le_mul (by omega) h6 (by omega) (by omega)
            omega
          have hasInt : ∀ (k : IntKind) (m : Int) (G : GH) (K' : Int → GH → Prop), gwp P (asInt (.int k m)) G K' = K' m G := fun _ _ _ _ => rfl
          simp only [gwp_bind, hasInt, gwp_typeInfo _ _ _ hi, hib, hl, hc]
          rw [if_neg (by simp; omega)]
          have hask : ∀ (q : Nat) (K' : Unit → GH → Prop), gwp P (askRoom q) G K' = K' () G := by
            intro q K'; unfold askRoom; split <;> rfl
          rw [gwp_bind, hask, gwp_bind, gwp_sizeOf _ _ _ h1]
          by_cases h0 : c.toNat * tySz P e = 0
          · rw [if_pos h0, gwp_bind, gwp_pure]
            have hcells : ∀ z0 : Array Value, (Array.range (c.toNat * tySz P e)).map (fun x => z0[x % z0.size]!) = Builtin.zeroCells z.cells c.toNat := by
              intro z0; unfold Builtin.zeroCells; rw [h2, h0]; simp
            rw [hcells]
            exact fun r hr => h r hr
          · rw [if_neg h0, gwp_bind, gwp_zeroValue _ _ _ hz, gwp_bind, gwp_pure]
            have hcells : (Array.range (c.toNat * tySz P e)).map (fun x => z.cells[x % z.cells.size]!) = Builtin.zeroCells z.cells c.toNat := by
              unfold Builtin.zeroCells; rw [h2]
            rw [hcells]
            exact fun r hr => h r hr
        · exact h.elim
      · exact h.elim
    · exact h.elim
  · exact h.elim
def vN (s : Sem Value) : Sem Next := do pure (Next.value (← s))
def uN (s : Sem Unit) : Sem Next := do s; pure Next.skip
theorem gwp_vN (s : Sem Value) (G : GH) (K : Value → GH → Prop) : gwp P (vN s) G (gnext P K) = gwp P s G K := by unfold vN; rw [gwp_bind]; rfl
theorem gwp_uN (s : Sem Unit) (G : GH) (K : Value → GH → Prop) : gwp P (uN s) G (gnext P K) = gwp P s G (fun _ G' => K undef G') := by unfold uN; rw [gwp_bind]; rfl
theorem vpure_det {F : GH → (Value → GH → Prop) → Prop} {G : GH} {K : Value → GH → Prop} (h : vpure (det F) G K) : F G K := by
  unfold vpure at h
  split at h
  · rename_i v hv; rw [det_spec hv]; exact h
  · cases h
theorem vop_sound (o : Oper) (f : Fr) (G : GH) (K : Value → GH → Prop) (h : vop P o f G K) : gop P o f G K := by
  obtain ⟨dst, op, T0, pos, after, guard⟩ := o
  unfold vop at h
  dsimp only at h
  unfold gop
  split at h
  · exact h
  · exact h
  · -- pick
    rename_i c a b
    show gwp P (do pure (Next.value (if ← asBool (ev f c) then ev f a else ev f b))) G _
    unfold vpure pvPick at h
    cases hc : ev f c <;> simp only [hc] at h <;> first | exact h.elim | exact h
  · -- alloc
    rename_i T
    show gwp P (vN (Instr.alloc T true (.tuple #[]))) G (gnext P K)
    rw [gwp_vN]
    unfold valloc at h
    split at h
    · rename_i z hz
      unfold Instr.alloc
      rw [gwp_bind, gwp_zeroValue _ _ _ hz]
      intro r hr; exact h r hr
    · cases h
  · -- box
    rename_i T x
    intro r hr; exact h r hr
  · -- load
    rename_i T p
    show gwp P (vN (Instr.loadAt T (ev f p))) G (gnext P K)
    rw [gwp_vN]
    unfold pvLoad at h
    split at h
    case h_2 => cases h
    rename_i a ha
    rw [ha]
    unfold Instr.loadAt
    rw [gwp_bind]
    show gwp P (loadVar T a) G _
    unfold loadVar
    cases hd : tyD P T with
    | none => simp [hd, vpure] at h
    | some d =>
      rw [gwp_bind, gwp_isAgg _ _ _ hd]
      simp only [hd, Option.map_some] at h
      cases hg : isAggD d with
      | true =>
        simp only [hg] at h
        split at h
        case isFalse => cases h
        rename_i hz
        cases hcs : gcells G a (tySz P T) with
        | none => simp [hcs, vpure] at h
        | some cs =>
          simp only [hcs, Option.map_some, vpure] at h
          simp only [if_true]
          rw [gwp_bind, gwp_sizeOf _ _ _ hz, gwp_bind]
          exact gwp_loadCells hcs h
      | false =>
        simp only [hg] at h
        cases hv : gcell G a with
        | none => simp [hv, vpure] at h
        | some v =>
          simp only [hv, vpure] at h
          simp only [Bool.false_eq_true, if_false]
          exact ⟨v, hv, h⟩
  · -- store
    rename_i T p x
    show gwp P (uN (Instr.storeAt T (ev f p) (ev f x))) G (gnext P K)
    rw [gwp_uN]
    unfold vstore at h
    split at h
    case h_2 => cases h
    rename_i a ha
    rw [ha]
    obtain ⟨⟨hz, hsz, hone⟩, hsp, c, e, hG, hl, hk⟩ := h
    unfold Instr.storeAt
    rw [gwp_bind]
    show gwp P (storeVar T a (ev f x)) G _
    unfold storeVar
    rw [gwp_bind, gwp_sizeOf _ _ _ hz]
    dsimp only
    rw [if_neg (by simpa using hsz)]
    exact gwp_storeCells hsp _ hone 0 G c hG (by simpa using hl) (by simpa using hk)
  · -- nilCheck
    rename_i x
    unfold vpure pvNil at h
    split at h
    case h_2 => cases h
    rename_i v hv
    split at hv
    · rename_i a ha
      cases hv
      show gwp P (match ev f x with | .pointer none | .nilIface | .nilFunc => _ | .func (.method name) first captured => _ | x => _) G _
      rw [ha] at h ⊢; exact h
    · rename_i n a b ha
      cases hv
      show gwp P (match ev f x with | .pointer none | .nilIface | .nilFunc => _ | .func (.method name) first captured => _ | x => _) G _
      rw [ha] at h ⊢; exact h
    · cases hv
  · rename_i op T x y T'
    have h' := vpure_det h
    rw [← gwp_vN] at h'
    exact h'
  · have h' := vpure_det h
    rw [← gwp_vN] at h'
    exact h'
  · have h' := vpure_det h
    rw [← gwp_vN] at h'
    exact h'
  · have h' := vpure_det h
    rw [← gwp_vN] at h'
    exact h'
  · have h' := vpure_det h
    rw [← gwp_vN] at h'
    exact h'
  · -- build
    rename_i T ps
    have h' := vpure_det h
    rw [← gwp_vN] at h'
    show gwp P (vN (Instr.build T (ps.map fun (i, x) => (i, ev f x)))) G _
    have e : (ps.map fun (i, x) => (i, ev f x)) = (ps.toList.map fun p => (p.1, ev f p.2)).toArray := by
      rw [← Array.toList_inj]; simp
    rw [e]
    exact h'
  · -- buildSlice
    rename_i T n ps
    have h' := gwp_buildSlice h
    unfold execOp
    dsimp only
    have e : (ps.map fun (i, x) => (i, ev f x)) = (ps.toList.map fun p => (p.1, ev f p.2)).toArray := by
      rw [← Array.toList_inj]; simp
    rw [e, gwp_bind]
    generalize Instr.buildSlice T n (ps.toList.map fun p => (p.1, ev f p.2)).toArray = q at *
    exact h'
  · exact h
  · -- makeSlice
    have h' := gwp_makeSlice h
    rw [← gwp_vN] at h'
    exact h'
  · -- makeMap
    intro r hr; exact h r hr
  · have h' := vpure_det h
    rw [← gwp_vN] at h'
    exact h'
  · have h' := vpure_det h
    rw [← gwp_vN] at h'
    exact h'
  · have h' := vpure_det h
    rw [← gwp_vN] at h'
    exact h'
  · have h' := vpure_det h
    rw [← gwp_vN] at h'
    exact h'
  · -- extract
    rename_i t i
    show gwp P (vN (Instr.extract (ev f t) i)) G (gnext P K)
    rw [gwp_vN]
    unfold vpure pvX at h
    split at h
    case h_2 => cases h
    rename_i v hv
    split at hv
    case h_2 => cases hv
    rename_i vs hvs
    rw [hvs]
    unfold Instr.extract
    rw [Array.getElem?_toList] at hv
    dsimp only
    rw [hv]
    exact h
  · -- lookup
    rename_i T m k ok
    show gwp P (vN (Instr.lookup T (ev f m) (ev f k) ok)) G (gnext P K)
    rw [gwp_vN]
    unfold vpure at h
    split at h
    · rename_i v hv; exact gwp_lookup hv h
    · exact h.elim
  · rename_i T m k
    show gwp P (vN (Instr.mapEntry T (ev f m) (ev f k))) G (gnext P K)
    rw [gwp_vN]; exact gwp_mapEntry h
  · rename_i T m t x
    show gwp P (uN (Instr.entryStore T (ev f m) (ev f t) (ev f x))) G (gnext P K)
    rw [gwp_uN]; exact gwp_entryStore h
  · rename_i T m k x
    show gwp P (uN (Instr.mapUpdate T (ev f m) (ev f k) (ev f x))) G (gnext P K)
    rw [gwp_uN]; exact gwp_mapUpdate h
  · -- typeAssert
    rename_i x T A ok
    cases ok with
    | true => exact h
    | false =>
      have h' := vpure_det (F := fun G K => gwp P (Instr.typeAssert (ev f x) T A false) G K) h
      rw [← gwp_vN] at h'
      exact h'
  · -- call
    rename_i c
    obtain ⟨callee, args, ats⟩ := c
    dsimp only at h
    have hmap : args.map (ev f) = (args.toList.map (ev f)).toArray := by rw [← Array.toList_inj]; simp
    split at h
    · rename_i g
      unfold vcall at h
      split at h
      case h_2 => cases h
      rename_i n first captured hg
      show gwp P (do let d ← resolve (ev f) _ T0; invoke d.target d.args) G _
      unfold resolve
      dsimp only
      rw [hg]
      show gwp P (callFunc n (first ++ args.map (ev f) ++ captured)) G _
      rw [gwp_callFunc h.1, hmap]
      exact h.2
    · show gwp P (vN (Builtin.len_ ats T0 (args.map (ev f)))) G (gnext P K)
      rw [hmap]
      unfold pvLen at h
      split at h
      · rename_i r hvs
        rw [hvs, gwp_vN]
        split at h
        case h_2 => exact h.elim
        rename_i t hts
        have hats : ats = #[t] := by rw [← Array.toList_inj]; exact hts
        subst hats
        split at h
        case h_2 => exact h.elim
        rename_i k e es clock tt hT hG
        unfold Builtin.len_
        simp only [List.getElem?_toArray, List.getElem?_cons_zero, gwp_bind, gwp_underlying _ _ _ hT]
        exact ⟨_, _, hG, by simp, h⟩
      · have h' := vpure_det h
        rw [← gwp_vN] at h'
        exact h'
    · have h' := vpure_det h
      rw [← gwp_vN] at h'
      show gwp P (vN (Builtin.cap_ ats T0 (args.map (ev f)))) G (gnext P K)
      rw [hmap]; exact h'
    · have h' := vpure_det h
      rw [← gwp_vN] at h'
      show gwp P (vN (Builtin.max_ ats T0 (args.map (ev f)))) G (gnext P K)
      rw [hmap]; exact h'
    · have h' := vpure_det h
      rw [← gwp_vN] at h'
      show gwp P (vN (Builtin.min_ ats T0 (args.map (ev f)))) G (gnext P K)
      rw [hmap]; exact h'
    · exact h
  · exact h
theorem pvLen_slice' (ts : List TypeId) (a : Option Addr) (n c : Nat) (G : GH) : pvLen P ts [.slice a n c] G = pvB1 P .len ts [.slice a n c] := rfl
theorem pvLen_string' (ts : List TypeId) (b : ByteArray) (G : GH) : pvLen P ts [.string b] G = pvB1 P .len ts [.string b] := rfl
theorem pvLen_agg' (ts : List TypeId) (b : Array Value) (G : GH) : pvLen P ts [.agg b] G = pvB1 P .len ts [.agg b] := rfl
theorem pvLen_map {t k e : TypeId} (ht : tyD P t = some (.map k e)) {r : Nat} {es : Array MapEntry} {c : Nat} {tt : Bool} {G : GH} (h : G r = some (.map es c, tt)) : pvLen P [t] [.map (some r)] G = some (.int .i64 es.size) := by
  unfold pvLen; simp only [ht, h]
end Go.GL
