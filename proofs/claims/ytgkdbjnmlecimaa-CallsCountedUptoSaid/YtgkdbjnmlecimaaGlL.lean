/- The law CallsCounted (second form, up to the bulk): a part of its proof. No conditions. -/
import Derived.Test.YtgkdbjnmlecimaaGlK
namespace Go.GL
open Go Go.RowKit
variable {P : Program}
theorem calm_mapM {α β : Type} {f : α → Sem β} {g : α → β} : ∀ (l : List α), (∀ x ∈ l, calm P (f x) = some (g x)) → calm P (l.mapM f) = some (l.map g)
  | [], _ => by rw [List.mapM_nil]; rfl
  | x :: l, h => by
    rw [List.mapM_cons, calm_bind, h x (by simp)]
    simp only [Option.bind_some]
    rw [calm_bind, calm_mapM l (fun y hy => h y (by simp [hy]))]
    rfl
theorem calm_map {α β : Type} (f : α → β) (s : Sem α) : calm P (f <$> s) = (calm P s).map f := by
  rw [map_eq_pure_bind, calm_bind]
  cases calm P s <;> rfl
theorem calm_amapM {α β : Type} {f : α → Sem β} {g : α → β} (l : Array α) (h : ∀ x ∈ l.toList, calm P (f x) = some (g x)) : calm P (l.mapM f) = some (l.map g) := by
  rw [Array.mapM_eq_mapM_toList, calm_map, calm_mapM _ h]
  rw [Option.map_some, Option.some.injEq, ← Array.toList_inj]; simp
theorem calm_sizeOf {t : TypeId} (h : 0 < tySz P t) : calm P (sizeOf t) = some (tySz P t) := by
  obtain ⟨i, h1, h2⟩ := info_some h
  unfold sizeOf typeInfo
  rw [calm_bind, calm_bind, calm_program]
  simp only [Option.bind_some, h1]
  rw [← h2]; rfl
theorem pvBuild_struct {T : TypeId} {fs : Array Field} {z : Value} {ps : List (Nat × Value)} {cells : Array Value} {pl : List (Nat × Nat)} (hT : tyD P T = some (.struct fs)) (hz : tyZ P T = some z)
    (hpl : (fs.map fun f => (f.offset, tySz P f.type)) = pl.toArray) (hs : fs.toList.all (fun f => decide (0 < tySz P f.type)) = true) (hf : Instr.fill (pl[·]?) z.cells ps = some cells) : pvBuild P T ps = some (.agg cells) := by
  unfold pvBuild
  refine det_some fun G K => ?_
  unfold Instr.build
  rw [gwp_bind, gwp_zeroValue _ _ _ hz, gwp_bind, gwp_underlying _ _ _ hT]
  dsimp only
  have : calm P (fs.mapM fun f => do pure (f.offset, ← sizeOf f.type)) = some pl.toArray := by
    rw [← hpl]
    refine calm_amapM _ fun f hf => ?_
    have := List.all_eq_true.1 hs f hf
    rw [calm_bind, calm_sizeOf (by simpa using this)]; rfl
  rw [gwp_bind, gwp_calm _ this]
  simp only [List.getElem?_toArray]
  rw [hf]; rfl
theorem bsCells_eq {T e : TypeId} {n sz : Nat} {z : Value} {ps : List (Nat × Value)} {cells : Array Value} (hT : tyD P T = some (.slice e)) (hsz : tySz P e = sz) (hpos : 0 < sz) (hn : n * sz ≤ 2 ^ 24) (hz : tyZ P e = some z)
    (hf : Instr.fill (fun i => some (i * sz, sz)) ((Array.range (n * sz)).map ((if n * sz = 0 then #[] else z.cells)[· % (if n * sz = 0 then #[] else z.cells).size]!)) ps = some cells) : bsCells P T n ps = some (cells.toList, e) := by
  unfold bsCells
  subst hsz
  simp only [hT, hz, Option.map_some]
  rw [if_pos ⟨hpos, hn⟩]
  split at hf
  · rename_i h0; simp only [if_pos h0, hf, Option.map_some]
  · rename_i h0; simp only [if_neg h0, hf, Option.map_some]
theorem Ju (k : IntKind) (n : Int) : oneV (.int k n) = true := nr rfl
theorem Jv (b : Bool) : oneV (.bool b) = true := nr rfl
theorem Jw (b : ByteArray) : oneV (.string b) = true := nr rfl
theorem Jx (a : Option Addr) (n c : Nat) : oneV (.slice a n c) = true := nr rfl
theorem Jy (a : Option Nat) : oneV (.map a) = true := nr rfl
theorem Jz (a : Option Addr) : oneV (.pointer a) = true := nr rfl
theorem oneV_iface (t : TypeId) (v : Value) : oneV (.iface t v) = true := nr rfl
theorem oneV_nilIface : oneV .nilIface = true := nr rfl
theorem oneV_nilFunc : oneV .nilFunc = true := nr rfl
theorem oneV_func (g : Fn) (a b : Array Value) : oneV (.func g a b) = true := nr rfl
theorem Qq (cs : Array Value) : (Value.agg cs).cells = cs := rfl
theorem int_cells (k : IntKind) (n : Int) : (Value.int k n).cells = #[.int k n] := rfl
theorem bool_cells (b : Bool) : (Value.bool b).cells = #[.bool b] := rfl
theorem string_cells (b : ByteArray) : (Value.string b).cells = #[.string b] := rfl
theorem slice_cells (a : Option Addr) (n c : Nat) : (Value.slice a n c).cells = #[.slice a n c] := rfl
theorem pointer_cells (a : Option Addr) : (Value.pointer a).cells = #[.pointer a] := rfl
theorem map_cells (a : Option Nat) : (Value.map a).cells = #[.map a] := rfl
theorem nilFunc_cells : Value.nilFunc.cells = #[.nilFunc] := rfl
theorem nilIface_cells : Value.nilIface.cells = #[.nilIface] := rfl
end Go.GL
