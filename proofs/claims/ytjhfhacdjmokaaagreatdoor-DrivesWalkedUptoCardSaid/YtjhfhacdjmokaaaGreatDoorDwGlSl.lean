/- A part of a proof: Walk and Length are as specified for all roads and arcs (statement DrivesWalkedUptoCardSaid) -/
import Derived.Test.YtjhfhacdjmokaaaGreatDoorDwGlRw
set_option linter.unusedSimpArgs false
set_option linter.unusedVariables false
set_option linter.unusedSectionVars false
namespace Go.GL
open Go Go.RowKit
variable {P : Program}
theorem gwp_sliceBound (k : IntKind) (i : Int) (y : Nat) (c : BoundsCode) (G : GH) (K : Nat → GH → Prop) : gwp P (Instr.sliceBound (.int k i) y c) G K = if 0 ≤ i ∧ i ≤ y then K i.toNat G else False := by
  have key : gwp P (Instr.sliceBound (.int k i) y c) G K = gwp P (if 0 ≤ i ∧ i ≤ (y : Int) then pure i.toNat else boundsPanic k i y c : Sem Nat) G K := rfl
  rw [key]
  by_cases h : 0 ≤ i ∧ i ≤ (y : Int)
  · rw [if_pos h, if_pos h]; rfl
  · rw [if_neg h, if_neg h, gwp_boundsPanic]
section
variable {T e : TypeId} (hT : tyD P T = some (.slice e)) (hs : 0 < tySz P e)
include hT hs
theorem gwp_slice (a : Option Addr) (n c : Nat) (lo hi mx : Option Value) (G : GH) (K : Value → GH → Prop) : gwp P (Instr.sliceAt T (.slice a n c) lo hi mx) G K =
    gwp P (Instr.sliceBounds true n c lo hi mx) G (fun r G' => K (.slice (if r.2.2 = r.1 then a else a.map (·.add (r.1 * tySz P e))) (r.2.1 - r.1) (r.2.2 - r.1)) G') := by
  unfold Instr.sliceAt
  rw [gwp_bind, gwp_underlying _ _ _ hT]
  show gwp P (Instr.slice T (.slice a n c) lo hi mx) G K = _
  unfold Instr.slice
  rw [gwp_bind, gwp_underlying _ _ _ hT]
  dsimp only
  rw [gwp_bind]
  congr 1
  funext r G'
  rw [gwp_bind, gwp_sizeOf _ _ _ hs]
  rfl
theorem pvSl_h (a : Option Addr) (n c : Nat) (k : IntKind) (h : Int) : pvSlice P T (.slice a n c) none (some (.int k h)) none = if 0 ≤ h ∧ h ≤ c then some (.slice a h.toNat c) else none := by
  have key : ∀ G (K : Value → GH → Prop), gwp P (Instr.sliceAt T (.slice a n c) none (some (.int k h)) none) G K = if 0 ≤ h ∧ h ≤ c then K (.slice a h.toNat c) G else False := by
    intro G K
    rw [gwp_slice hT hs]
    unfold Instr.sliceBounds
    simp only [gwp_bind, gwp_pure, gwp_sliceBound]
    have e : (if c = 0 then a else a.map (·.add (0 * tySz P e))) = a := by
      split
      · rfl
      · cases a with
        | none => rfl
        | some a => rw [Nat.zero_mul]; cases a; rfl
    simp only [e, Nat.sub_zero]
  by_cases hg : 0 ≤ h ∧ h ≤ (c : Int)
  · rw [if_pos hg]; exact det_some fun G K => by rw [key, if_pos hg]
  · rw [if_neg hg]; exact det_none fun G K => by rw [key, if_neg hg]
theorem pvSl_l (a : Option Addr) (n c : Nat) (k : IntKind) (l : Int) : pvSlice P T (.slice a n c) (some (.int k l)) none none = if 0 ≤ l ∧ l ≤ n then some (.slice (if c = l.toNat then a else a.map (·.add (l.toNat * tySz P e))) (n - l.toNat) (c - l.toNat)) else none := by
  have key : ∀ G (K : Value → GH → Prop), gwp P (Instr.sliceAt T (.slice a n c) (some (.int k l)) none none) G K = if 0 ≤ l ∧ l ≤ n then K (.slice (if c = l.toNat then a else a.map (·.add (l.toNat * tySz P e))) (n - l.toNat) (c - l.toNat)) G else False := by
    intro G K
    rw [gwp_slice hT hs]
    unfold Instr.sliceBounds
    simp only [gwp_bind, gwp_pure, gwp_sliceBound]
  by_cases hg : 0 ≤ l ∧ l ≤ (n : Int)
  · rw [if_pos hg]; exact det_some fun G K => by rw [key, if_pos hg]
  · rw [if_neg hg]; exact det_none fun G K => by rw [key, if_neg hg]
theorem pvSl_lh (a : Option Addr) (n c : Nat) (k k' : IntKind) (l h : Int) : pvSlice P T (.slice a n c) (some (.int k l)) (some (.int k' h)) none = if (0 ≤ h ∧ h ≤ c) ∧ 0 ≤ l ∧ l ≤ h then some (.slice (if c = l.toNat then a else a.map (·.add (l.toNat * tySz P e))) (h.toNat - l.toNat) (c - l.toNat)) else none := by
  have key : ∀ G (K : Value → GH → Prop), gwp P (Instr.sliceAt T (.slice a n c) (some (.int k l)) (some (.int k' h)) none) G K = if (0 ≤ h ∧ h ≤ c) ∧ 0 ≤ l ∧ l ≤ h then K (.slice (if c = l.toNat then a else a.map (·.add (l.toNat * tySz P e))) (h.toNat - l.toNat) (c - l.toNat)) G else False := by
    intro G K
    rw [gwp_slice hT hs]
    unfold Instr.sliceBounds
    simp only [gwp_bind, gwp_pure, gwp_sliceBound]
    by_cases h1 : 0 ≤ h ∧ h ≤ (c : Int)
    · rw [if_pos h1]
      by_cases h2 : 0 ≤ l ∧ l ≤ h
      · have h3 : 0 ≤ l ∧ l ≤ (h.toNat : Int) := by omega
        simp only [h1, h2, h3, and_self, if_true]
      · have h3 : ¬ (0 ≤ l ∧ l ≤ (h.toNat : Int)) := by omega
        simp only [h1, h2, h3, and_false, if_false]
    · rw [if_neg h1, if_neg (fun h => h1 h.1)]
  by_cases hg : (0 ≤ h ∧ h ≤ (c : Int)) ∧ 0 ≤ l ∧ l ≤ h
  · rw [if_pos hg]; exact det_some fun G K => by rw [key, if_pos hg]
  · rw [if_neg hg]; exact det_none fun G K => by rw [key, if_neg hg]
theorem pvSl_hm (a : Option Addr) (n c : Nat) (k k' : IntKind) (h m : Int) : pvSlice P T (.slice a n c) none (some (.int k h)) (some (.int k' m)) = if (0 ≤ m ∧ m ≤ c) ∧ 0 ≤ h ∧ h ≤ m then some (.slice a h.toNat m.toNat) else none := by
  have key : ∀ G (K : Value → GH → Prop), gwp P (Instr.sliceAt T (.slice a n c) none (some (.int k h)) (some (.int k' m))) G K = if (0 ≤ m ∧ m ≤ c) ∧ 0 ≤ h ∧ h ≤ m then K (.slice a h.toNat m.toNat) G else False := by
    intro G K
    rw [gwp_slice hT hs]
    unfold Instr.sliceBounds
    simp only [gwp_bind, gwp_pure, gwp_sliceBound]
    have e : ∀ q, (if q = 0 then a else a.map (·.add (0 * tySz P e))) = a := by
      intro q
      split
      · rfl
      · cases a with
        | none => rfl
        | some a => rw [Nat.zero_mul]; cases a; rfl
    simp only [e, Nat.sub_zero]
    by_cases h1 : 0 ≤ m ∧ m ≤ (c : Int)
    · rw [if_pos h1]
      by_cases h2 : 0 ≤ h ∧ h ≤ m
      · have h3 : 0 ≤ h ∧ h ≤ (m.toNat : Int) := by omega
        simp only [h1, h2, h3, and_self, if_true]
      · have h3 : ¬ (0 ≤ h ∧ h ≤ (m.toNat : Int)) := by omega
        simp only [h1, h2, h3, and_false, if_false]
    · rw [if_neg h1, if_neg (fun h => h1 h.1)]
  by_cases hg : (0 ≤ m ∧ m ≤ (c : Int)) ∧ 0 ≤ h ∧ h ≤ m
  · rw [if_pos hg]; exact det_some fun G K => by rw [key, if_pos hg]
  · rw [if_neg hg]; exact det_none fun G K => by rw [key, if_neg hg]
end
theorem pvCap_slice {T e : TypeId} (h : tyD P T = some (.slice e)) (a : Option Addr) (m c : Nat) : pvB1 P .cap [T] [.slice a m c] = some (.int .i64 c) := det_some fun G K => by
  simp only [Builtin.cap_, List.getElem?_toArray, List.getElem?_cons_zero]
  rw [gwp_bind, gwp_underlying _ _ _ h]; rfl
theorem OV.shrink {e : TypeId} {sz : Nat} {G0 G : GH} {a : Option Addr} {n c : Nat} {cs : List Value} (h : OV e sz G0 G (.slice a n c) n cs) : OV e sz G0 G (.slice a 0 c) 0 [] := by
  rcases h.2 with ⟨h1, h2⟩ | ⟨b, cap, d, h1, h0, hb, hsz, hn, ht⟩
  · cases h1; exact OV.nil _ _ _ _
  · cases h1; exact ⟨by simp, .inr ⟨b, c, d, rfl, h0, hb, hsz, Nat.zero_le _, by simp⟩⟩
theorem OV.base {e : TypeId} {sz : Nat} {G0 G1 G : GH} {v : Value} {n : Nat} {cs : List Value} (h : OV e sz G1 G v n cs) (hl : G0.le G1) : OV e sz G0 G v n cs := by
  obtain ⟨h1, h2⟩ := h
  exact ⟨h1, h2.imp id fun ⟨b, cap, d, a1, a2, a3⟩ => ⟨b, cap, d, a1, hl.none a2, a3⟩⟩
theorem zero_all {z : Value} (hz : z.cells.toList.all oneV = true) (n : Nat) : (Builtin.zeroCells z.cells n).toList.all oneV = true := by
  unfold Builtin.zeroCells
  rw [List.all_eq_true]
  intro x hx
  simp only [Array.toList_map, List.mem_map, Array.toList_range, List.mem_range] at hx
  obtain ⟨i, hi, rfl⟩ := hx
  by_cases h0 : z.cells.size = 0
  · rw [h0] at hi; omega
  · have hlt : i % z.cells.size < z.cells.size := Nat.mod_lt _ (by omega)
    rw [List.all_eq_true] at hz
    refine hz _ ?_
    have e : z.cells[i % z.cells.size]! = z.cells[i % z.cells.size] := getElem!_pos z.cells _ hlt
    rw [e]; simp
theorem gwp_appendMake {T U xT e : TypeId} {sz : Nat} {G0 G : GH} {s : Value} {n : Nat} {m : Int} {k xk : IntKind} {cs : List Value} {z : Value} {K : Value → GH → Prop}
    (hs : tyD P T = some (.slice e)) (hx : tyD P xT = some (.int xk)) (hz : tySz P e = sz) (hpos : 0 < sz) (hzv : tyZ P e = some z) (hzs : z.cells.size = sz) (hzo : z.cells.toList.all oneV = true)
    (hb0 : tyBytes P e ≠ 0) (hb1 : tyBytes P e ≤ 4096) (hm0 : 0 ≤ m) (hm : n + m ≤ 1073741824) (hv : OV e sz G0 G s n cs)
    (hle : G0.le G) (hk : ∀ v' G', OV e sz G0 G' v' (n + m.toNat) (cs ++ (Builtin.zeroCells z.cells m.toNat).toList) → (∀ r o, G r = some o → notAt s r → G' r = some o) → G0.le G' → K v' G') : gwp P (Builtin.append_ #[T, xT] U #[s, .int k m]) G K := by
  obtain ⟨i, hi, hisz⟩ := info_some (P := P) (t := e) (by omega)
  have hib : i.bytes = tyBytes P e := by unfold tyBytes; rw [hi]; rfl
  obtain ⟨sa, scap, rfl⟩ := hv.val
  have hrd := hv.read
  obtain ⟨hl, hv2⟩ := hv
  obtain ⟨m, rfl⟩ := Int.eq_ofNat_of_zero_le hm0
  simp only [Int.toNat_natCast] at hk
  have hwm : IntKind.i64.wrap (m : Int) = m := wrap_id (by omega)
  have hdl : (Builtin.zeroCells z.cells m).toList.length = m * sz := by rw [Array.length_toList, zeroCells_size, hzs]
  have hda := zero_all hzo m
  have hprod : m * tyBytes P e ≤ 1073741824 * 4096 := Nat.mul_le_mul (by omega) hb1
  have hbytes : ∀ (G : GH) (K' : TypeInfo → GH → Prop), gwp P (typeInfo e) G K' = K' i G := fun G K' => gwp_typeInfo _ _ _ hi
  have hdata : ∀ (G : GH) (K' : Array Value → GH → Prop), K' (Builtin.zeroCells z.cells m) G → gwp P (if m * sz = 0 then (pure #[] : Sem (Array Value)) else do pure (Builtin.zeroCells (← zeroValue e).cells m)) G K' := by
    intro G K' h
    by_cases h0 : m * sz = 0
    · rw [if_pos h0]
      have : Builtin.zeroCells z.cells m = #[] := by
        apply Array.eq_empty_of_size_eq_zero; rw [zeroCells_size, hzs, h0]
      rw [this] at h; exact h
    · rw [if_neg h0, gwp_bind, gwp_zeroValue _ _ _ hzv]; exact h
  have hasInt : ∀ (G : GH) (K' : Int → GH → Prop), gwp P (asInt (.int k (m : Int))) G K' = K' (m : Int) G := fun G K' => rfl
  have hlt : ¬ ((m : Int) < 0) := by omega
  have hgt : ¬ ((m : Int) * (tyBytes P e : Int) > 2 ^ 48) := by
    have : ((m * tyBytes P e : Nat) : Int) ≤ ((1073741824 * 4096 : Nat) : Int) := Int.ofNat_le.2 hprod
    rw [Int.natCast_mul] at this
    have h2 : ((1073741824 * 4096 : Nat) : Int) ≤ 2 ^ 48 := by decide
    omega
  simp only [Builtin.append_, List.getElem?_toArray, List.getElem?_cons_zero, List.getElem?_cons_succ, gwp_bind, gwp_underlying _ _ _ hs, gwp_underlying _ _ _ hx, gwp_sizeOf e _ _ (show 0 < tySz P e by omega), gwp_pure, hz, if_true, hasInt, hwm, if_neg hlt, hbytes, hib, if_neg hgt, Int.toNat_natCast, Bool.not_true, Bool.false_eq_true, if_false]
  by_cases hc : n + m ≤ scap
  · rw [if_pos hc, gwp_bind]
    refine hdata _ _ ?_
    rcases hv2 with ⟨hv2, rfl⟩ | ⟨b, cap, c, hv2, h0, hb, hsz2, hn, htake⟩
    · cases hv2
      have hm : m = 0 := by omega
      subst hm
      have hcs : cs = [] := by cases cs <;> simp_all
      subst hcs
      refine hk _ _ ⟨by simp [Builtin.zeroCells], .inl ⟨rfl, rfl⟩⟩ (fun r o h _ => h) hle
    · cases hv2
      have hmul : (n + m) * sz ≤ scap * sz := Nat.mul_le_mul_right _ hc
      rw [Nat.add_mul] at hmul
      dsimp only
      rw [gwp_bind]
      refine gwp_storeCells (e := e) (by rw [add_spot ⟨b, 0, none⟩ _ rfl]) _ hda 0 G c (by rw [add_block]; exact hb) (by rw [add_off, hdl]; simp; omega) ?_
      simp only [add_block, add_off, Nat.zero_add, Nat.add_zero]
      refine hk _ _ ⟨by rw [List.length_append, hl, hdl, Nat.add_mul], .inr ⟨b, scap, _, rfl, h0, put_self _ _ _, by rw [setCells_size, hsz2], hc, ?_⟩⟩ ?_ (le_put_new hle h0 _)
      · rw [setCells_list _ _ _ (by rw [hdl]; omega), Nat.add_mul, htake, List.append_assoc, ← List.append_assoc, List.take_append_of_le_length (by rw [List.length_append, hl, hdl]; omega), List.take_of_length_le (by rw [List.length_append, hl, hdl]; omega)]
      · intro r o hr' hne
        rw [put_ne _ _ (by intro e; subst e; exact hne _ _ rfl)]; exact hr'
  · rw [if_neg hc]
    have hmax : ¬ (((n + m : Nat) : Int) > IntKind.i64.max) := by
      have : IntKind.i64.max = 9223372036854775807 := by decide
      rw [this]; omega
    simp only [gwp_bind, hbytes, hib, if_true, true_or, and_true, if_neg hmax]
    have hcap := nextslicecap_le (n := n + m) (c := scap) (by omega)
    have hroom : (2 * (n + m) + 512) * tyBytes P e ≤ 2 ^ 48 := by
      have h1 : (2 * (n + m) + 512) * tyBytes P e ≤ (2 * (n + m) + 512) * 4096 := Nat.mul_le_mul_left _ hb1
      have h2 : (2 * (n + m) + 512) * 4096 ≤ 281474976710656 := by omega
      exact Nat.le_trans h1 (Nat.le_trans h2 (by decide))
    rw [if_neg (by have := Nat.mul_le_mul_right (tyBytes P e) hcap; omega)]
    simp only [gwp_bind]
    intro t
    have hask : ∀ (q : Nat) (K' : Unit → GH → Prop), gwp P (askRoom q) G K' = K' () G := by
      intro q K'; unfold askRoom; split <;> rfl
    have hcut : (if (Question.appendCap (n + m) scap e).forced = true then 0 else (Question.appendCap (n + m) scap e).cut t) = n + m + t % (2 ^ 63 - (n + m)) := rfl
    rw [hcut]
    have hnc : n + m ≤ n + m + t % (2 ^ 63 - (n + m)) := Nat.le_add_right _ _
    generalize n + m + t % (2 ^ 63 - (n + m)) = nc at *
    have hpn : ∀ K' : Nat → GH → Prop, gwp P (Sem.pure nc) G K' = K' nc G := fun K' => rfl
    rw [hpn, hbytes, hask]
    refine gwp_firstCells hrd ?_
    refine hdata _ _ ?_
    rw [gwp_zeroValue _ _ _ hzv]
    intro r hr0
    have hG0 : G0 r = none := hle.none hr0
    have hzc := zeroCells_size z.cells (nc - (n + m))
    have hzm := zeroCells_size z.cells m
    have e1 : (n + m) * sz = n * sz + m * sz := Nat.add_mul _ _ _
    have e2 : nc * sz = (n + m) * sz + (nc - (n + m)) * sz := by rw [← Nat.add_mul]; congr 1; omega
    refine hk _ _ ⟨by rw [List.length_append, hl, hdl, Nat.add_mul], .inr ⟨r, nc, _, rfl, hG0, put_self _ _ _, ?_, hnc, ?_⟩⟩ ?_ (hle.trans (le_put hr0 _))
    · simp only [Array.size_append, List.size_toArray, hzc, hzm, hzs]; omega
    · simp only [Array.toList_append]
      rw [List.take_append_of_le_length (by rw [List.length_append, hl, hdl]; omega), List.take_of_length_le (by rw [List.length_append, hl, hdl]; omega)]
    · intro q o hq _
      exact le_put hr0 _ _ _ hq
end Go.GL
