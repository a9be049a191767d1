/- A part of a proof: CostsDivided: a card of costs, parts and legs: what Divide, CheckLegs and ByLegs give is what their simple ones give -/
import Derived.Test.YtdepecjjahodjaaDoorCdGlMk
import Derived.Test.YtdepecjjahodjaaDoorCdGlSl
set_option linter.unusedSimpArgs false
set_option linter.unusedVariables false
set_option linter.unusedSectionVars false
namespace Go.GL
open Go Go.RowKit
variable {P : Program}
theorem flatI1 (f : Int → Value) : ∀ xs : List Int, (xs.map fun x => [f x]).flatten = xs.map f
  | [] => rfl
  | x :: xs => by rw [List.map_cons, List.flatten_cons, flatI1 f xs]; rfl
theorem cellsof_int {G : GH} {xs : List Int} {cs : List Value} (h : Cellsof Rp.int G xs cs) : cs = xs.map (Value.int .i64) := by
  obtain ⟨css, rfl, hl, hR⟩ := h
  have : css = xs.map fun x => [Value.int .i64 x] := by
    apply List.ext_getElem (by simpa using hl)
    intro i h1 h2
    have hx : i < xs.length := by omega
    have := hR i xs[i] css[i] (List.getElem?_eq_getElem hx) (List.getElem?_eq_getElem h1)
    rw [List.getElem_map]; exact this.1
  rw [this, flatI1]
theorem cellsof_i64 {G : GH} {xs : List Int} {cs : List Value} (h : Cellsof Rp.int G xs cs) : ∀ x ∈ xs, i64 x := by
  obtain ⟨css, rfl, hl, hR⟩ := h
  intro x hx
  obtain ⟨i, hi, rfl⟩ := List.mem_iff_getElem.1 hx
  exact (hR i _ _ (List.getElem?_eq_getElem hi) (List.getElem?_eq_getElem (by omega))).2
theorem cellsof_int_mk {G : GH} (xs : List Int) (hxx : ∀ x ∈ xs, i64 x) : Cellsof Rp.int G xs (xs.map (Value.int .i64)) := ⟨xs.map fun x => [Value.int .i64 x], (flatI1 _ xs).symm, by simp, by
  intro i x c hx hc
  rw [List.getElem?_map, hx] at hc
  cases hc; exact ⟨rfl, hxx _ (List.mem_of_getElem? hx)⟩⟩
theorem allOne_int (xs : List Int) : (xs.map (Value.int .i64)).all oneV = true := by
  rw [List.all_eq_true]; intro v hv; obtain ⟨x, _, rfl⟩ := List.mem_map.1 hv; rfl
theorem gwp_copyI {dT sT T e : TypeId} {G0 G : GH} {a a2 sa : Addr} {c c2 i n sn sc : Nat} {xs ys : List Int} {K : Value → GH → Prop}
    (hd : tyD P dT = some (.slice e)) (hz : tySz P e = 1) (hrow : Row Rp.int e G0 G (.slice (some a) xs.length c) xs) (hx : 0 < xs.length)
    (hb2 : a2.block = a.block) (ho2 : a2.off = i) (hs2 : a2.spot = none) (hi : i + n = xs.length) (hy : ∀ y ∈ ys, i64 y)
    (hm : ys.length = min sn n) (hr : gcells G sa ys.length = some (ys.map (Value.int .i64))) (hle : G0.le G)
    (hk : ∀ G', Row Rp.int e G0 G' (.slice (some a) xs.length c) (xs.take i ++ ys ++ xs.drop (i + ys.length)) → (∀ r o, G r = some o → r ≠ a.block → G' r = some o) → G0.le G' → K (.int .i64 ys.length) G') :
    gwp P (Builtin.copy_ #[dT, sT] T #[.slice (some a2) n c2, .slice (some sa) sn sc]) G K := by
  simp only [Builtin.copy_, List.getElem?_toArray, List.getElem?_cons_zero, List.getElem?_cons_succ, gwp_bind, gwp_underlying _ _ _ hd, gwp_sizeOf e _ _ (show 0 < tySz P e by omega), gwp_pure, hz, Builtin.lenOf, Builtin.firstCells]
  have he : (Nat.min sn n) * 1 = ys.length := by rw [hm, Nat.mul_one]
  rw [he]
  refine gwp_loadCells hr ?_
  obtain ⟨b, cells, h1, h0, hrest⟩ := hrow.open hx
  cases h1
  obtain ⟨cs, ⟨hl, hv⟩, hc⟩ := hrow
  have hxi := cellsof_i64 hc
  have hcs := cellsof_int hc
  subst hcs
  rcases hv with ⟨hv, _⟩ | ⟨b', cap, c', hv, h0, hb, hsz, hn, htake⟩
  · cases hv
  · cases hv
    have hsz' : (Rp.int).sz = 1 := rfl
    rw [hsz'] at hsz htake hl
    have hyl : ys.length ≤ n := by omega
    refine gwp_storeCells (e := e) hs2 (ys.map (Value.int .i64)) (allOne_int ys) 0 G c' (by rw [hb2]; exact hb) (by rw [ho2, List.length_map]; omega) ?_
    have hgn : (goInt (Nat.min sn n) : Value) = .int .i64 ys.length := by rw [hm]; rfl
    rw [hgn]
    have ei : a2.off + 0 = i := by rw [ho2]; rfl
    rw [ei, hb2]
    refine hk _ ⟨_, ⟨?_, .inr ⟨b, c, _, ?_, h0, put_self _ _ _, ?_, ?_, ?_⟩⟩, cellsof_int_mk _ ?_⟩ ?_ ?_
    · rw [hsz']; simp
    · simp only [List.length_append, List.length_take, List.length_drop]
      congr 1; omega
    · rw [setCells_size, hsz]; rfl
    · simp only [List.length_append, List.length_take, List.length_drop]; omega
    · rw [hsz']
      rw [setCells_list _ _ _ (by rw [List.length_map]; omega)]
      have hx2 : (xs.map (Value.int .i64)) = c'.toList.take xs.length := by rw [← htake]; simp
      have hlc : c'.toList.length = c := by simp [hsz]
      rw [List.map_append, List.map_append, List.map_take, List.map_drop, hx2, List.length_map]
      have e1 : (c'.toList.take xs.length).take i = c'.toList.take i := by rw [List.take_take]; congr 1; omega
      have e2 : (c'.toList.take xs.length).drop (i + ys.length) = (c'.toList.drop (i + ys.length)).take (xs.length - (i + ys.length)) := by rw [List.drop_take]
      rw [e1, e2]
      have e3 : (c'.toList.take i ++ ys.map (Value.int .i64)).length = i + ys.length := by simp only [List.length_append, List.length_take, List.length_map]; omega
      have e4 : (xs.take i ++ ys ++ xs.drop (i + ys.length)).length = xs.length := by simp only [List.length_append, List.length_take, List.length_drop]; omega
      rw [e4, Nat.mul_one, List.take_append, List.take_of_length_le (by rw [e3]; omega), e3]
    · intro x hx
      rcases List.mem_append.1 hx with hx | hx
      · rcases List.mem_append.1 hx with hx | hx
        · exact hxi x (List.mem_of_mem_take hx)
        · exact hy x hx
      · exact hxi x (List.mem_of_mem_drop hx)
    · intro r o hr' hne
      rw [put_ne _ _ hne]; exact hr'
    · exact le_put_new hle h0 _
theorem Yg_copyI {rs : Array ResultVar} {K : Value → GH → Prop} {s : List It} {ops : List Oper} {md : Option GH} {d : Option Nat} {l : List Oper} {f : Fr} {dT sT T e : TypeId} {G0 G : GH} {a a2 sa : Addr} {c c2 i n sn sc : Nat} {xs ys : List Int}
    (hd : tyD P dT = some (.slice e)) (hz : tySz P e = 1) (hrow : Row Rp.int e G0 G (.slice (some a) xs.length c) xs) (hx : 0 < xs.length)
    (hb2 : a2.block = a.block) (ho2 : a2.off = i) (hs2 : a2.spot = none) (hi : i + n = xs.length) (hy : ∀ y ∈ ys, i64 y)
    (hm : ys.length = min sn n) (hr : gcells G sa ys.length = some (ys.map (Value.int .i64))) (hle : G0.le G)
    (hk : ∀ G', Row Rp.int e G0 G' (.slice (some a) xs.length c) (xs.take i ++ ys ++ xs.drop (i + ys.length)) → (∀ r o, G r = some o → r ≠ a.block → G' r = some o) → G0.le G' → Y P rs K s ops md l (put f d (.int .i64 ys.length)) G') :
    Yg P rs K s ops md d l f G (Builtin.copy_ #[dT, sT] T #[.slice (some a2) n c2, .slice (some sa) sn sc]) := gwp_copyI hd hz hrow hx hb2 ho2 hs2 hi hy hm hr hle hk
theorem Row.cellsI {e : TypeId} {G0 G : GH} {a : Addr} {n c k : Nat} {xs : List Int} (h : Row Rp.int e G0 G (.slice (some a) n c) xs) (hx : 0 < xs.length) (hk : k ≤ xs.length) : gcells G a k = some ((xs.take k).map (Value.int .i64)) := by
  obtain ⟨cs, hv, hc⟩ := h
  have hcs := cellsof_int hc
  subst hcs
  obtain ⟨hl, hv⟩ := hv
  rcases hv with ⟨hv, _⟩ | ⟨b', cap, c', hv, h0, hb, hsz, hn, htake⟩
  · cases hv
  · cases hv
    have hsz' : (Rp.int).sz = 1 := rfl
    rw [hsz'] at hsz htake hl
    unfold gcells
    rw [hb]
    have hx2 : (xs.map (Value.int .i64)) = c'.toList.take xs.length := by rw [← htake]; simp
    have : c'.size = c := by rw [hsz]; simp
    simp only [Option.isNone_none, true_and, Nat.zero_add]
    rw [if_pos (by omega), List.map_take, hx2, List.take_take, List.drop_zero]
    congr 2; omega
theorem RSl.cellsI {G : GH} {a : Addr} {n c : Nat} {xs : List Int} (h : RSl Rp.int G (.slice (some a) n c) xs) (hx : 0 < xs.length) : n = xs.length ∧ gcells G a xs.length = some (xs.map (Value.int .i64)) := by
  obtain ⟨ds, ⟨hl, xa, xc, hv, hg⟩, hc⟩ := h.read
  cases hv
  have hcs := cellsof_int hc
  subst hcs
  rcases hg with ⟨a', ha, hg⟩ | h0
  · cases ha
    refine ⟨rfl, ?_⟩
    have : (Rp.int).sz = 1 := rfl
    rw [this, Nat.mul_one] at hg; exact hg
  · omega
end Go.GL
