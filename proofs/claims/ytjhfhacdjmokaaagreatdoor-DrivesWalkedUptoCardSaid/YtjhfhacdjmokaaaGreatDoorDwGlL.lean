/- A part of a proof: Walk and Length are as specified for all roads and arcs (statement DrivesWalkedUptoCardSaid) -/
import Derived.Test.YtjhfhacdjmokaaaGreatDoorDwGlK
set_option linter.unusedSimpArgs false
set_option linter.unusedVariables false
set_option linter.unusedSectionVars false
namespace Go.GL
open Go Go.RowKit
variable {P : Program}
theorem pvBuild_struct {T : TypeId} {fs : Array Field} {z : Value} {ps : List (Nat × Value)} {cells : Array Value} {pl : List (Nat × Nat)} (hT : tyD P T = some (.struct fs)) (hz : tyZ P T = some z)
    (hpl : (fs.map fun f => (f.offset, tySz P f.type)) = pl.toArray) (hs : fs.toList.all (fun f => decide (0 < tySz P f.type)) = true) (hf : Instr.fill (pl[·]?) z.cells ps = some cells) : pvBuild P T ps = some (.agg cells) := by
  unfold pvBuild
  refine det_some fun G K => ?_
  unfold Instr.build
  rw [gwp_bind, gwp_zeroValue _ _ _ hz, gwp_bind, gwp_underlying _ _ _ hT]
  dsimp only
  have : calm P (fs.mapM fun f => do pure (f.offset, ← sizeOf f.type)) = some pl.toArray := by
    rw [← hpl]
    refine calm_amapM _ fun f hf => ?_
    have := List.all_eq_true.1 hs f hf
    rw [calm_bind, calm_sizeOf (by simpa using this)]; rfl
  rw [gwp_bind, gwp_calm _ this]
  simp only [List.getElem?_toArray]
  rw [hf]; rfl
theorem bsCells_eq {T e : TypeId} {n sz : Nat} {z : Value} {ps : List (Nat × Value)} {cells : Array Value} (hT : tyD P T = some (.slice e)) (hsz : tySz P e = sz) (hpos : 0 < sz) (hn : n * sz ≤ 2 ^ 24) (hz : tyZ P e = some z)
    (hf : Instr.fill (fun i => some (i * sz, sz)) ((Array.range (n * sz)).map ((if n * sz = 0 then #[] else z.cells)[· % (if n * sz = 0 then #[] else z.cells).size]!)) ps = some cells) : bsCells P T n ps = some (cells.toList, e) := by
  unfold bsCells
  subst hsz
  simp only [hT, hz, Option.map_some]
  rw [if_pos ⟨hpos, hn⟩]
  split at hf
  · rename_i h0; simp only [if_pos h0, hf, Option.map_some]
  · rename_i h0; simp only [if_neg h0, hf, Option.map_some]
theorem zipIdx_set (off : Nat) : ∀ (vs : List Value) (j : Nat) (cells : Array Value), (vs.zipIdx j).foldl (fun cs p => cs.setIfInBounds (off + p.2) p.1) cells = setCells cells (off + j) vs
  | [], _, _ => rfl
  | v :: vs, j, cells => by
    rw [List.zipIdx_cons, List.foldl_cons, zipIdx_set off vs (j + 1)]
    rfl
theorem fill_all (sz : Nat) : ∀ (vs : List Value) (k : Nat) (cells : Array Value), vs.all (fun v => decide (v.cells.size = sz)) = true → cells.size = k * sz + vs.length * sz →
    Instr.fill (fun i => some (i * sz, sz)) cells ((vs.zipIdx k).map fun p => (p.2, p.1)) = some ((cells.toList.take (k * sz) ++ (vs.map (·.cells.toList)).flatten).toArray)
  | [], k, cells, _, h => by
    have : cells.toList.take (k * sz) = cells.toList := List.take_of_length_le (by simp at h ⊢; omega)
    simp [Instr.fill, this]
  | v :: vs, k, cells, ha, h => by
    simp only [List.all_cons, Bool.and_eq_true, decide_eq_true_eq] at ha
    obtain ⟨h1, h2⟩ := ha
    simp only [List.length_cons, Nat.add_mul, Nat.one_mul] at h
    rw [List.zipIdx_cons, List.map_cons, Instr.fill]
    dsimp only
    rw [if_neg (by rw [h1]; simp; omega)]
    have e1 : v.cells.zipIdx.foldl (fun cs x => cs.setIfInBounds (k * sz + x.2) x.1) cells = setCells cells (k * sz) v.cells.toList := by
      have h0 := zipIdx_set (k * sz) v.cells.toList 0 cells
      rw [← Array.foldl_toList, Array.toList_zipIdx]
      exact h0
    have e2 : (v.cells.zipIdx.foldl (fun (cs : Array Value) (x : Value × Nat) => match x with | (c, j) => cs.setIfInBounds (k * sz + j) c) cells) = setCells cells (k * sz) v.cells.toList := e1
    rw [e2]
    have hlen : v.cells.toList.length = sz := by simpa using h1
    have hs := setCells_list v.cells.toList cells (k * sz) (by rw [hlen]; omega)
    have hsz : (setCells cells (k * sz) v.cells.toList).size = cells.size := by
      rw [← Array.length_toList, hs]; simp [hlen]; omega
    rw [fill_all sz vs (k + 1) _ h2 (by rw [hsz, Nat.add_mul, Nat.one_mul]; omega)]
    have hA : (cells.toList.take (k * sz)).length = k * sz := by rw [List.length_take, Array.length_toList]; omega
    rw [hs, List.take_left' (by rw [List.length_append, hA, hlen, Nat.add_mul, Nat.one_mul])]
    simp
theorem bsCells_all {T e : TypeId} {n sz : Nat} {z : Value} (vs : List Value) (hT : tyD P T = some (.slice e)) (hsz : tySz P e = sz) (hpos : 0 < sz) (hn : n * sz ≤ 2 ^ 24) (hz : tyZ P e = some z) (hl : vs.length = n)
    (hv : vs.all (fun v => decide (v.cells.size = sz)) = true) : bsCells P T n ((vs.zipIdx 0).map fun p => (p.2, p.1)) = some ((vs.map (·.cells.toList)).flatten, e) := by
  have h := bsCells_eq (P := P) (ps := (vs.zipIdx 0).map fun p => (p.2, p.1)) hT hsz hpos hn hz (fill_all sz vs 0 _ hv (by simp [hl]))
  simpa using h
theorem oneV_int (k : IntKind) (n : Int) : oneV (.int k n) = true := nr rfl
theorem oneV_bool (b : Bool) : oneV (.bool b) = true := nr rfl
theorem oneV_string (b : ByteArray) : oneV (.string b) = true := nr rfl
theorem oneV_slice (a : Option Addr) (n c : Nat) : oneV (.slice a n c) = true := nr rfl
theorem oneV_map (a : Option Nat) : oneV (.map a) = true := nr rfl
theorem oneV_pointer (a : Option Addr) : oneV (.pointer a) = true := nr rfl
theorem oneV_iface (t : TypeId) (v : Value) : oneV (.iface t v) = true := nr rfl
theorem oneV_nilIface : oneV .nilIface = true := nr rfl
theorem oneV_nilFunc : oneV .nilFunc = true := nr rfl
theorem oneV_func (g : Fn) (a b : Array Value) : oneV (.func g a b) = true := nr rfl
theorem agg_cells (cs : Array Value) : (Value.agg cs).cells = cs := rfl
theorem int_cells (k : IntKind) (n : Int) : (Value.int k n).cells = #[.int k n] := rfl
theorem bool_cells (b : Bool) : (Value.bool b).cells = #[.bool b] := rfl
theorem string_cells (b : ByteArray) : (Value.string b).cells = #[.string b] := rfl
theorem slice_cells (a : Option Addr) (n c : Nat) : (Value.slice a n c).cells = #[.slice a n c] := rfl
theorem pointer_cells (a : Option Addr) : (Value.pointer a).cells = #[.pointer a] := rfl
theorem map_cells (a : Option Nat) : (Value.map a).cells = #[.map a] := rfl
theorem nilFunc_cells : Value.nilFunc.cells = #[.nilFunc] := rfl
theorem nilIface_cells : Value.nilIface.cells = #[.nilIface] := rfl
end Go.GL
