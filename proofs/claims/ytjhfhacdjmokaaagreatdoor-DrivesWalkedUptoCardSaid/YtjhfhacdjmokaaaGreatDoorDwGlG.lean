/- A part of a proof: Walk and Length are as specified for all roads and arcs (statement DrivesWalkedUptoCardSaid) -/
import Derived.Test.YtjhfhacdjmokaaaGreatDoorDwGlF
set_option linter.unusedSimpArgs false
set_option linter.unusedVariables false
set_option linter.unusedSectionVars false
namespace Go.GL
open Go Go.RowKit
variable {P : Program}
section
variable (T : TypeId) (x y : Operand) (k : IntKind) (a b : Int)
theorem pvB_add : pvB P .add T x y (.int k a) (.int k b) = some (.int k (k.wrap (a + b))) := det_some fun G K => by simp [eqGuard, binOp, Op.intArith, gwp_bind, gwp_pure]
theorem pvB_sub : pvB P .sub T x y (.int k a) (.int k b) = some (.int k (k.wrap (a - b))) := det_some fun G K => by simp [eqGuard, binOp, Op.intArith, gwp_bind, gwp_pure]
theorem pvB_mul : pvB P .mul T x y (.int k a) (.int k b) = some (.int k (k.wrap (a * b))) := det_some fun G K => by simp [eqGuard, binOp, Op.intArith, gwp_bind, gwp_pure]
theorem pvB_quo : pvB P .quo T x y (.int k a) (.int k b) = if b ≠ 0 then some (.int k (k.wrap (a.tdiv b))) else none := by
  by_cases h : b = 0
  · rw [if_neg (by simp [h])]; subst h
    exact det_none fun G K => by simp [eqGuard, binOp, Op.intDiv, gwp_bind, gwp_pure, runtimePanic, gwp_program, goPanic, gwp]
  · rw [if_pos h]; exact det_some fun G K => by simp [eqGuard, binOp, Op.intDiv, gwp_bind, gwp_pure, h]
theorem pvB_rem : pvB P .rem T x y (.int k a) (.int k b) = if b ≠ 0 then some (.int k (a.tmod b)) else none := by
  by_cases h : b = 0
  · rw [if_neg (by simp [h])]; subst h
    exact det_none fun G K => by simp [eqGuard, binOp, Op.intDiv, gwp_bind, gwp_pure, runtimePanic, gwp_program, goPanic, gwp]
  · rw [if_pos h]; exact det_some fun G K => by simp [eqGuard, binOp, Op.intDiv, gwp_bind, gwp_pure, h]
theorem pvB_and : pvB P .and T x y (.int k a) (.int k b) = some (.int k (k.wrap (BitVec.ofInt k.bits a &&& BitVec.ofInt k.bits b).toNat)) := det_some fun G K => by simp [eqGuard, binOp, Op.intBits, gwp_bind, gwp_pure]
theorem pvB_or : pvB P .or T x y (.int k a) (.int k b) = some (.int k (k.wrap (BitVec.ofInt k.bits a ||| BitVec.ofInt k.bits b).toNat)) := det_some fun G K => by simp [eqGuard, binOp, Op.intBits, gwp_bind, gwp_pure]
theorem pvB_xor : pvB P .xor T x y (.int k a) (.int k b) = some (.int k (k.wrap (BitVec.ofInt k.bits a ^^^ BitVec.ofInt k.bits b).toNat)) := det_some fun G K => by simp [eqGuard, binOp, Op.intBits, gwp_bind, gwp_pure]
theorem pvB_shl (k' : IntKind) : pvB P .shl T x y (.int k a) (.int k' b) = if 0 ≤ b then some (.int k (k.wrap (a * 2 ^ (min b.toNat k.bits)))) else none := by
  by_cases h : b < 0
  · rw [if_neg (by omega)]
    exact det_none fun G K => by simp [eqGuard, binOp, Op.shift, gwp_bind, gwp_pure, h, runtimePanic, gwp_program, goPanic, gwp]
  · rw [if_pos (by omega)]; exact det_some fun G K => by simp [eqGuard, binOp, Op.shift, gwp_bind, gwp_pure, h]
theorem pvB_shr (k' : IntKind) : pvB P .shr T x y (.int k a) (.int k' b) = if 0 ≤ b then some (.int k (a.fdiv (2 ^ (min b.toNat k.bits)))) else none := by
  by_cases h : b < 0
  · rw [if_neg (by omega)]
    exact det_none fun G K => by simp [eqGuard, binOp, Op.shift, gwp_bind, gwp_pure, h, runtimePanic, gwp_program, goPanic, gwp]
  · rw [if_pos (by omega)]; exact det_some fun G K => by simp [eqGuard, binOp, Op.shift, gwp_bind, gwp_pure, h]
theorem pvB_lss : pvB P .lss T x y (.int k a) (.int k b) = some (.bool (decide (a < b))) := det_some fun G K => by simp [eqGuard, binOp, Op.intCmp, gwp_bind, gwp_pure]
theorem pvB_leq : pvB P .leq T x y (.int k a) (.int k b) = some (.bool (decide (a ≤ b))) := det_some fun G K => by simp [eqGuard, binOp, Op.intCmp, gwp_bind, gwp_pure]
theorem pvB_gtr : pvB P .gtr T x y (.int k a) (.int k b) = some (.bool (decide (b < a))) := det_some fun G K => by simp [eqGuard, binOp, Op.intCmp, gwp_bind, gwp_pure]
theorem pvB_geq : pvB P .geq T x y (.int k a) (.int k b) = some (.bool (decide (b ≤ a))) := det_some fun G K => by simp [eqGuard, binOp, Op.intCmp, gwp_bind, gwp_pure]
theorem pvB_eql : pvB P .eql T x y (.int k a) (.int k b) = some (.bool (decide (a = b))) := det_some fun G K => by
  have e : (a == b) = decide (a = b) := by rw [Bool.eq_iff_iff]; simp
  rw [← e]; simp [eqGuard, binOp, Op.intCmp, gwp_bind, gwp_pure]
theorem pvB_neq : pvB P .neq T x y (.int k a) (.int k b) = some (.bool (decide (a ≠ b))) := det_some fun G K => by
  have e : (a != b) = decide (a ≠ b) := by rw [Bool.eq_iff_iff]; simp
  rw [← e]; simp [eqGuard, binOp, Op.intCmp, gwp_bind, gwp_pure]
variable (s t : ByteArray)
def slt (a b : List UInt8) : Bool := Op.bytesLess a b
theorem pvB_seq : pvB P .eql T x y (.string s) (.string t) = some (.bool (s.toList == t.toList)) := det_some fun G K => by simp [eqGuard, binOp, Op.stringOp, gwp_bind, gwp_pure]
theorem pvB_sne : pvB P .neq T x y (.string s) (.string t) = some (.bool (!(s.toList == t.toList))) := det_some fun G K => by simp [eqGuard, binOp, Op.stringOp, gwp_bind, gwp_pure]
theorem pvB_slt : pvB P .lss T x y (.string s) (.string t) = some (.bool (slt s.toList t.toList)) := det_some fun G K => by simp [eqGuard, binOp, Op.stringOp, gwp_bind, gwp_pure, slt]
theorem pvB_sle : pvB P .leq T x y (.string s) (.string t) = some (.bool (slt s.toList t.toList || s.toList == t.toList)) := det_some fun G K => by simp [eqGuard, binOp, Op.stringOp, gwp_bind, gwp_pure, slt]
theorem pvB_sgt : pvB P .gtr T x y (.string s) (.string t) = some (.bool (!(slt s.toList t.toList || s.toList == t.toList))) := det_some fun G K => by simp [eqGuard, binOp, Op.stringOp, gwp_bind, gwp_pure, slt]
theorem pvB_sge : pvB P .geq T x y (.string s) (.string t) = some (.bool (!(slt s.toList t.toList))) := det_some fun G K => by simp [eqGuard, binOp, Op.stringOp, gwp_bind, gwp_pure, slt]
theorem pvB_scat (h : ((s.size + t.size : Nat) : Int) ≤ IntKind.i64.max) : pvB P .add T x y (.string s) (.string t) = some (.string (s ++ t)) := det_some fun G K => by
  show gwp P (Op.stringOp .add s t) G K = _
  unfold Op.stringOp
  dsimp only
  rw [if_neg (by omega)]; rfl
theorem pvU_not (t : Bool) : pvU P .not (.bool t) = some (.bool (!t)) := det_some fun G K => rfl
theorem pvU_neg : pvU P .neg (.int k a) = some (.int k (k.wrap (0 - a))) := det_some fun G K => rfl
end
theorem gwp_boundsPanic {α : Type} (k : IntKind) (x y : Int) (c : BoundsCode) (G : GH) (K : α → GH → Prop) : gwp P (boundsPanic k x y c : Sem α) G K = False := by
  have hr : ∀ (b : Bool) (G : GH), gwp P (runtimePanic (.bounds (IntKind.i64.wrap x) y b c) : Sem α) G K = False := fun b G => rfl
  unfold boundsPanic
  dsimp only
  split
  · rw [eq_iff_iff]
    refine ⟨fun h => ?_, False.elim⟩
    have := h 0
    exact this
  · exact hr _ _
section
variable {T e : TypeId}
theorem gwp_equalIn_bool (h : tyD P T = some .bool) (d : Nat) (a b : Bool) (G : GH) (K : Bool → GH → Prop) : gwp P (Op.equalIn (d + 1) T (.bool a) (.bool b)) G K = K (a == b) G := by
  rw [Op.equalIn, gwp_bind, gwp_underlying _ _ _ h]; rfl
theorem gwp_equalIn_slnil (h : tyD P T = some (.slice e)) (d : Nat) (a : Option Addr) (n c m k : Nat) (G : GH) (K : Bool → GH → Prop) : gwp P (Op.equalIn (d + 1) T (.slice a n c) (.slice none m k)) G K = K a.isNone G := by
  rw [Op.equalIn, gwp_bind, gwp_underlying _ _ _ h]; cases a <;> rfl
theorem pvB_eq_of {x y : Operand} {a b : Value} {r : Bool} (hg : eqGuard .eql T x y a b = pure ()) (hb : binOp .eql T a b = (do pure (.bool (← Op.equal T a b)))) (he : ∀ G K, gwp P (Op.equalIn (9999 + 1) T a b) G K = K r G) :
    pvB P .eql T x y a b = some (.bool r) := det_some fun G K => by
  rw [hg, hb, gwp_bind, gwp_pure, gwp_bind]
  show gwp P (Op.equalIn (9999 + 1) T a b) G _ = _
  rw [he]; rfl
theorem pvB_ne_of {x y : Operand} {a b : Value} {r : Bool} (hg : eqGuard .neq T x y a b = pure ()) (hb : binOp .neq T a b = (do pure (.bool (!(← Op.equal T a b))))) (he : ∀ G K, gwp P (Op.equalIn (9999 + 1) T a b) G K = K r G) :
    pvB P .neq T x y a b = some (.bool (!r)) := det_some fun G K => by
  rw [hg, hb, gwp_bind, gwp_pure, gwp_bind]
  show gwp P (Op.equalIn (9999 + 1) T a b) G _ = _
  rw [he]; rfl
theorem pvB_beq (h : tyD P T = some .bool) (x y : Operand) (a b : Bool) : pvB P .eql T x y (.bool a) (.bool b) = some (.bool (a == b)) := pvB_eq_of rfl rfl fun G K => gwp_equalIn_bool h _ a b G K
theorem pvB_bne (h : tyD P T = some .bool) (x y : Operand) (a b : Bool) : pvB P .neq T x y (.bool a) (.bool b) = some (.bool (!(a == b))) := pvB_ne_of rfl rfl fun G K => gwp_equalIn_bool h _ a b G K
theorem pvB_slnil (h : tyD P T = some (.slice e)) (x y : Operand) (a : Option Addr) (n c m d : Nat) : pvB P .eql T x y (.slice a n c) (.slice none m d) = some (.bool a.isNone) := pvB_eq_of rfl rfl fun G K => gwp_equalIn_slnil h _ a n c m d G K
theorem pvB_slnnil (h : tyD P T = some (.slice e)) (x y : Operand) (a : Option Addr) (n c m d : Nat) : pvB P .neq T x y (.slice a n c) (.slice none m d) = some (.bool (!a.isNone)) := pvB_ne_of rfl rfl fun G K => gwp_equalIn_slnil h _ a n c m d G K
variable {n : Nat}
theorem pvLoad_one (h : (tyD P T).map isAggD = some false) (a : Addr) (G : GH) : pvLoad P T (.pointer (some a)) G = gcell G a := by unfold pvLoad; simp only [h]
theorem pvLoad_agg (h : (tyD P T).map isAggD = some true) (hs : tySz P T = n) (hn : 0 < n) (a : Addr) (G : GH) : pvLoad P T (.pointer (some a)) G = (gcells G a n).map fun cs => .agg cs.toArray := by
  unfold pvLoad; simp [h, hs, hn]
def tyFld (P : Program) (S : TypeId) (i : Nat) : Option (Nat × TypeId) :=
  match tyD P S with
  | some (.struct fs) => (fs[i]?).map fun f => (f.offset, f.type)
  | _ => none
theorem pvFA_eq {i off : Nat} {F : TypeId} (h : tyFld P T i = some (off, F)) (hs : 0 < tySz P F) (a : Addr) : pvFA P T (.pointer (some a)) i = some (.pointer (some (a.add off))) := det_some fun G K => by
  unfold tyFld at h
  split at h
  case h_2 => cases h
  rename_i fs hd
  simp only [Option.map_eq_some_iff, Prod.mk.injEq] at h
  obtain ⟨fl, hfl, rfl, rfl⟩ := h
  unfold Instr.fieldAt
  rw [gwp_bind, gwp_underlying _ _ _ hd]
  dsimp only
  rw [hfl]
  dsimp only
  rw [gwp_bind]
  show gwp P (fieldPlace a fl >>= _) G _ = _
  unfold fieldPlace
  rw [gwp_bind, gwp_bind, gwp_sizeOf _ _ _ hs, if_neg (by omega)]
  rfl
theorem gwp_part_one {F : TypeId} (h1 : (tyD P F).map isAggD = some false) {cs : List Value} {off : Nat} {v : Value} (hv : cs[off]? = some v) (G : GH) (K : Value → GH → Prop) : gwp P (part F cs.toArray off) G K = K v G := by
  cases hd : tyD P F with
  | none => simp [hd] at h1
  | some d =>
    simp only [hd, Option.map_some, Option.some.injEq] at h1
    unfold part
    rw [gwp_bind, gwp_isAgg _ _ _ hd, h1]
    simp [hv]; rfl
theorem gwp_part_agg {F : TypeId} (h1 : (tyD P F).map isAggD = some true) (hs : tySz P F = n) (hn : 0 < n) (cs : List Value) (off : Nat) (G : GH) (K : Value → GH → Prop) : gwp P (part F cs.toArray off) G K = K (.agg ((cs.drop off).take n).toArray) G := by
  cases hd : tyD P F with
  | none => simp [hd] at h1
  | some d =>
    simp only [hd, Option.map_some, Option.some.injEq] at h1
    unfold part
    rw [gwp_bind, gwp_isAgg _ _ _ hd, h1]
    simp only [if_true]
    rw [gwp_bind, gwp_sizeOf _ _ _ (by omega), gwp_pure]
    congr 2
    rw [← Array.toList_inj, Array.toList_extract]; simp [hs, List.extract_eq_take_drop]
theorem gwp_field {i off : Nat} {F : TypeId} (h : tyFld P T i = some (off, F)) (cs : Array Value) (G : GH) (K : Value → GH → Prop) : gwp P (Instr.field T (.agg cs) i) G K = gwp P (part F cs off) G K := by
  unfold tyFld at h
  split at h
  case h_2 => cases h
  rename_i fs hd
  simp only [Option.map_eq_some_iff, Prod.mk.injEq] at h
  obtain ⟨fl, hfl, rfl, rfl⟩ := h
  unfold Instr.field
  rw [gwp_bind, gwp_underlying _ _ _ hd]
  dsimp only
  rw [hfl]
  dsimp only
  rw [gwp_bind]
  rfl
theorem pvField_one {i off : Nat} {F : TypeId} (h : tyFld P T i = some (off, F)) (h1 : (tyD P F).map isAggD = some false) {cs : List Value} {v : Value} (hv : cs[off]? = some v) : pvField P T (.agg cs.toArray) i = some v :=
  det_some fun G K => by rw [gwp_field h, gwp_part_one h1 hv]
theorem pvField_agg {i off : Nat} {F : TypeId} (h : tyFld P T i = some (off, F)) (h1 : (tyD P F).map isAggD = some true) (hs : tySz P F = n) (hn : 0 < n) (cs : List Value) : pvField P T (.agg cs.toArray) i = some (.agg ((cs.drop off).take n).toArray) :=
  det_some fun G K => by rw [gwp_field h, gwp_part_agg h1 hs hn]
theorem pvIA_slice (h : tyD P T = some (.slice e)) (hs : tySz P e = n) (hn : 0 < n) (ad : Addr) (m c : Nat) (k : IntKind) (j : Int) :
    pvIA P T (.slice (some ad) m c) (.int k j) = if 0 ≤ j ∧ j < m then some (.pointer (some (ad.add (j.toNat * n)))) else none := by
  have key : ∀ G K, gwp P (Instr.indexAt T (.slice (some ad) m c) (.int k j)) G K = gwp P (if 0 ≤ j ∧ j < (m : Int) then do pure (Value.pointer (some (ad.add (j.toNat * (← sizeOf e))))) else if (decide (m ≤ 1) && false) = true then unsupported (Unsupported.noEntry "op/indexAddr.an index out of range at an array of length 0 or 1 (ledger 616)") else boundsPanic k j m .index) G K := by
    intro G K
    unfold Instr.indexAt
    rw [gwp_bind]
    show gwp P (underlying T >>= _) G _ = _
    rw [gwp_bind, gwp_underlying _ _ _ h]
    dsimp only
    rw [gwp_bind, gwp_pure]
    dsimp only
    rw [gwp_bind, gwp_underlying _ _ _ h]
  by_cases hb : 0 ≤ j ∧ j < (m : Int)
  · rw [if_pos hb]
    exact det_some fun G K => by rw [key, if_pos hb, gwp_bind, gwp_sizeOf _ _ _ (by omega), hs]; rfl
  · rw [if_neg hb]
    refine det_none fun G K => ?_
    rw [key, if_neg hb, if_neg (by simp), gwp_boundsPanic]
theorem byte_getD (s : ByteArray) (i : Nat) (h : i < s.size) : s.data.toList.getD i 0 = s[i] := by
  have h' : i < s.data.toList.length := by simpa using h
  rw [List.getD_eq_getElem?_getD, List.getElem?_eq_getElem h', Option.getD_some]
  rw [Array.getElem_toList]; rfl
theorem pvI_string (h : tyD P T = some .string) (s : ByteArray) (k : IntKind) (j : Int) :
    pvI P T (.string s) (.int k j) = if 0 ≤ j ∧ j < s.size then some (.int .u8 (s.data.toList.getD j.toNat 0).toNat) else none := by
  have key : ∀ G K, gwp P (Instr.index T (.string s) (.int k j)) G K = gwp P (match (if 0 ≤ j then s[j.toNat]? else none) with | some b => pure (.int .u8 b.toNat) | none => boundsPanic k j s.size .index) G K := by
    intro G K
    unfold Instr.index
    rw [gwp_bind]
    show gwp P (underlying T >>= _) G _ = _
    rw [gwp_bind, gwp_underlying _ _ _ h]; rfl
  by_cases hb : 0 ≤ j ∧ j < s.size
  · rw [if_pos hb]
    have hlt : j.toNat < s.size := by omega
    have : s[j.toNat]? = some s[j.toNat] := by simp [getElem?_pos, hlt]
    exact det_some fun G K => by rw [key, if_pos hb.1, this, byte_getD s _ hlt]; rfl
  · rw [if_neg hb]
    refine det_none fun G K => ?_
    rw [key]
    have : (if 0 ≤ j then s[j.toNat]? else none) = none := by
      split
      · simp [getElem?_neg, show ¬ j.toNat < s.size by omega]
      · rfl
    rw [this]
    exact gwp_boundsPanic _ _ _ _ _ _
theorem pvLen_slice (h : tyD P T = some (.slice e)) (a : Option Addr) (m c : Nat) : pvB1 P .len [T] [.slice a m c] = some (.int .i64 m) := det_some fun G K => by
  simp only [Builtin.len_, List.getElem?_toArray, List.getElem?_cons_zero]
  rw [gwp_bind, gwp_underlying _ _ _ h]; rfl
theorem pvLen_string (h : tyD P T = some .string) (s : ByteArray) : pvB1 P .len [T] [.string s] = some (.int .i64 s.size) := det_some fun G K => by
  simp only [Builtin.len_, List.getElem?_toArray, List.getElem?_cons_zero]
  rw [gwp_bind, gwp_underlying _ _ _ h]; rfl
theorem pvMax2 (T U : TypeId) (k k' : IntKind) (a b : Int) : pvB1 P .max [T, U] [.int k a, .int k' b] = some (.int k (if b > a then b else a)) := det_some fun G K => by
  simp [Builtin.max_, Builtin.max2, gwp_pure]
theorem pvMin2 (T U : TypeId) (k k' : IntKind) (a b : Int) : pvB1 P .min [T, U] [.int k a, .int k' b] = some (.int k (if b < a then b else a)) := det_some fun G K => by
  simp [Builtin.min_, Builtin.min2, gwp_pure]
theorem pvConv_int (S D : TypeId) {ds : TypeDesc} {k : IntKind} (h : tyD P D = some (.int k)) (hs : tyD P S = some ds) (k' : IntKind) (a : Int) : pvConv P S D (.int k' a) = some (.int k (k.wrap a)) := det_some fun G K => by
  unfold convert
  rw [gwp_bind, gwp_underlying _ _ _ hs, gwp_bind, gwp_underlying _ _ _ h]
  cases ds <;> rfl
theorem pvIface_eq {d : TypeDesc} (h : tyD P T = some d) (hd : (match d with | .interface _ => true | _ => false) = false) (v : Value) : pvIface P T v = some (.iface T v) := det_some fun G K => by
  unfold Instr.makeInterface
  rw [gwp_bind, gwp_underlying _ _ _ h]
  cases d <;> first | rfl | cases hd
end
theorem pvX_at (vs : List Value) (i : Nat) : pvX (.tuple vs.toArray) i = vs[i]? := by unfold pvX; simp
theorem pvPick_bool (t : Bool) (a b : Value) : pvPick (.bool t) a b = some (if t then a else b) := nr rfl
theorem pvNil_ptr (a : Addr) : pvNil (.pointer (some a)) = some (.pointer (some a)) := nr rfl
theorem pvNil_fn (n : Nat) (a b : Array Value) : pvNil (.func (.func n) a b) = some (.func (.func n) a b) := nr rfl
end Go.GL
