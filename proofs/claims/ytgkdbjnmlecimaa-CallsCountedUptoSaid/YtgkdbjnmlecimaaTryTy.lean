/- The law CallsCounted (second form, up to the bulk): a part of its proof. No conditions. -/
import Derived.Test.YtgkdbjnmlecimaaProg
import Derived.Test.YtgkdbjnmlecimaaGlH
set_option linter.unusedSimpArgs false
set_option linter.unusedVariables false
namespace Go.Proofs.Ytgkdbjnmlecimaa
open Go Go.GL
theorem sz3 : tySz Try.prog 3 = 1 := by kernel_rfl
theorem ag3 : (tyD Try.prog 3).map isAggD = some false := by rw [show tyD Try.prog 3 = _ from Try.underlying3]; rfl
theorem ld3 (a : Addr) (G : GH) : pvLoad Try.prog 3 (.pointer (some a)) G = gcell G a := pvLoad_one ag3 a G
theorem zv3 : tyZ Try.prog 3 = some (.int .i64 0) := by kernel_rfl
theorem ia22 (ad : Addr) (m c : Nat) (k : IntKind) (j : Int) : pvIA Try.prog 22 (.slice (some ad) m c) (.int k j) = if 0 ≤ j ∧ j < m then some (.pointer (some (ad.add (j.toNat * 3)))) else none := pvIA_slice Try.underlying22 (by kernel_rfl) (by decide) ad m c k j
theorem ln22 (a : Option Addr) (n c : Nat) : pvB1 Try.prog .len [22] [.slice a n c] = some (.int .i64 n) := pvLen_slice Try.underlying22 a n c
theorem sn22 (x y : Operand) (a : Option Addr) (n c m d : Nat) : pvB Try.prog .eql 22 x y (.slice a n c) (.slice none m d) = some (.bool a.isNone) := pvB_slnil Try.underlying22 x y a n c m d
theorem snn22 (x y : Operand) (a : Option Addr) (n c m d : Nat) : pvB Try.prog .neq 22 x y (.slice a n c) (.slice none m d) = some (.bool (!a.isNone)) := pvB_slnnil Try.underlying22 x y a n c m d
theorem sz24 : tySz Try.prog 24 = 2 := by kernel_rfl
theorem ag24 : (tyD Try.prog 24).map isAggD = some true := by rw [show tyD Try.prog 24 = _ from Try.underlying24]; rfl
theorem ld24 (a : Addr) (G : GH) : pvLoad Try.prog 24 (.pointer (some a)) G = (gcells G a 2).map fun cs => .agg cs.toArray := pvLoad_agg ag24 sz24 (by decide) a G
theorem st24 (rs : Array ResultVar) (K : Value → GH → Prop) (s : List It) (ops : List Oper) (md : Option GH) (d : Option Nat) (l : List Oper) (f : Fr) (G : GH) (a : Addr) (x0 x1 : Value) (h : [x0, x1].all oneV = true) : Yst Try.prog rs K s ops md d l f G 24 (.pointer (some a)) (.agg #[x0, x1]) = Yset Try.prog rs K s ops md d l f G a [x0, x1] := Yst_ptr rs K s ops md d l f G ⟨by rw [sz24]; decide, by rw [sz24]; rfl⟩ rfl h
theorem zv24 : tyZ Try.prog 24 = some (.agg #[.int .i64 0, .int .i64 0]) := by kernel_rfl
theorem al24 (rs : Array ResultVar) (K : Value → GH → Prop) (s : List It) (ops : List Oper) (md : Option GH) (d : Option Nat) (l : List Oper) (f : Fr) (G : GH) : Yal Try.prog rs K s ops md d l f G 24 = Ynew' Try.prog rs K s ops md d l f G (.cells #[.int .i64 0, .int .i64 0] 24 (0, 0)) (fun r => .pointer (some ⟨r, 0, none⟩)) := Yal_eq rs K s ops md d l f G zv24
theorem fa24_0 (a : Addr) : pvFA Try.prog 24 (.pointer (some a)) 0 = some (.pointer (some (a.add 0))) := pvFA_eq (F := 3) (by unfold tyFld; rw [show tyD Try.prog 24 = _ from Try.underlying24]; rfl) (by rw [show tySz Try.prog 3 = 1 from by kernel_rfl]; decide) a
theorem fa24_1 (a : Addr) : pvFA Try.prog 24 (.pointer (some a)) 1 = some (.pointer (some (a.add 1))) := pvFA_eq (F := 3) (by unfold tyFld; rw [show tyD Try.prog 24 = _ from Try.underlying24]; rfl) (by rw [show tySz Try.prog 3 = 1 from by kernel_rfl]; decide) a
theorem sz25 : tySz Try.prog 25 = 1 := by kernel_rfl
theorem ag25 : (tyD Try.prog 25).map isAggD = some false := by rw [show tyD Try.prog 25 = _ from Try.underlying25]; rfl
theorem ld25 (a : Addr) (G : GH) : pvLoad Try.prog 25 (.pointer (some a)) G = gcell G a := pvLoad_one ag25 a G
theorem zv25 : tyZ Try.prog 25 = some (.int .i64 0) := by kernel_rfl
theorem sz38 : tySz Try.prog 38 = 3 := by kernel_rfl
theorem ag38 : (tyD Try.prog 38).map isAggD = some true := by rw [show tyD Try.prog 38 = _ from Try.underlying38]; rfl
theorem ld38 (a : Addr) (G : GH) : pvLoad Try.prog 38 (.pointer (some a)) G = (gcells G a 3).map fun cs => .agg cs.toArray := pvLoad_agg ag38 sz38 (by decide) a G
theorem st38 (rs : Array ResultVar) (K : Value → GH → Prop) (s : List It) (ops : List Oper) (md : Option GH) (d : Option Nat) (l : List Oper) (f : Fr) (G : GH) (a : Addr) (x0 x1 x2 : Value) (h : [x0, x1, x2].all oneV = true) : Yst Try.prog rs K s ops md d l f G 38 (.pointer (some a)) (.agg #[x0, x1, x2]) = Yset Try.prog rs K s ops md d l f G a [x0, x1, x2] := Yst_ptr rs K s ops md d l f G ⟨by rw [sz38]; decide, by rw [sz38]; rfl⟩ rfl h
theorem zv38 : tyZ Try.prog 38 = some (.agg #[.int .i64 0, .int .i64 0, .int .i64 0]) := by kernel_rfl
theorem al38 (rs : Array ResultVar) (K : Value → GH → Prop) (s : List It) (ops : List Oper) (md : Option GH) (d : Option Nat) (l : List Oper) (f : Fr) (G : GH) : Yal Try.prog rs K s ops md d l f G 38 = Ynew' Try.prog rs K s ops md d l f G (.cells #[.int .i64 0, .int .i64 0, .int .i64 0] 38 (0, 0)) (fun r => .pointer (some ⟨r, 0, none⟩)) := Yal_eq rs K s ops md d l f G zv38
theorem fa38_0 (a : Addr) : pvFA Try.prog 38 (.pointer (some a)) 0 = some (.pointer (some (a.add 0))) := pvFA_eq (F := 3) (by unfold tyFld; rw [show tyD Try.prog 38 = _ from Try.underlying38]; rfl) (by rw [show tySz Try.prog 3 = 1 from by kernel_rfl]; decide) a
theorem fa38_1 (a : Addr) : pvFA Try.prog 38 (.pointer (some a)) 1 = some (.pointer (some (a.add 1))) := pvFA_eq (F := 3) (by unfold tyFld; rw [show tyD Try.prog 38 = _ from Try.underlying38]; rfl) (by rw [show tySz Try.prog 3 = 1 from by kernel_rfl]; decide) a
theorem fa38_2 (a : Addr) : pvFA Try.prog 38 (.pointer (some a)) 2 = some (.pointer (some (a.add 2))) := pvFA_eq (F := 3) (by unfold tyFld; rw [show tyD Try.prog 38 = _ from Try.underlying38]; rfl) (by rw [show tySz Try.prog 3 = 1 from by kernel_rfl]; decide) a
theorem ia39 (ad : Addr) (m c : Nat) (k : IntKind) (j : Int) : pvIA Try.prog 39 (.slice (some ad) m c) (.int k j) = if 0 ≤ j ∧ j < m then some (.pointer (some (ad.add (j.toNat * 4)))) else none := pvIA_slice Try.underlying39 (by kernel_rfl) (by decide) ad m c k j
theorem ln39 (a : Option Addr) (n c : Nat) : pvB1 Try.prog .len [39] [.slice a n c] = some (.int .i64 n) := pvLen_slice Try.underlying39 a n c
theorem sz44 : tySz Try.prog 44 = 4 := by kernel_rfl
theorem ag44 : (tyD Try.prog 44).map isAggD = some true := by rw [show tyD Try.prog 44 = _ from Try.underlying44]; rfl
theorem ld44 (a : Addr) (G : GH) : pvLoad Try.prog 44 (.pointer (some a)) G = (gcells G a 4).map fun cs => .agg cs.toArray := pvLoad_agg ag44 sz44 (by decide) a G
theorem st44 (rs : Array ResultVar) (K : Value → GH → Prop) (s : List It) (ops : List Oper) (md : Option GH) (d : Option Nat) (l : List Oper) (f : Fr) (G : GH) (a : Addr) (x0 x1 x2 x3 : Value) (h : [x0, x1, x2, x3].all oneV = true) : Yst Try.prog rs K s ops md d l f G 44 (.pointer (some a)) (.agg #[x0, x1, x2, x3]) = Yset Try.prog rs K s ops md d l f G a [x0, x1, x2, x3] := Yst_ptr rs K s ops md d l f G ⟨by rw [sz44]; decide, by rw [sz44]; rfl⟩ rfl h
theorem zv44 : tyZ Try.prog 44 = some (.agg #[.int .i64 0, .int .i64 0, .int .i64 0, .int .i64 0]) := by kernel_rfl
theorem al44 (rs : Array ResultVar) (K : Value → GH → Prop) (s : List It) (ops : List Oper) (md : Option GH) (d : Option Nat) (l : List Oper) (f : Fr) (G : GH) : Yal Try.prog rs K s ops md d l f G 44 = Ynew' Try.prog rs K s ops md d l f G (.cells #[.int .i64 0, .int .i64 0, .int .i64 0, .int .i64 0] 44 (0, 0)) (fun r => .pointer (some ⟨r, 0, none⟩)) := Yal_eq rs K s ops md d l f G zv44
theorem fa44_0 (a : Addr) : pvFA Try.prog 44 (.pointer (some a)) 0 = some (.pointer (some (a.add 0))) := pvFA_eq (F := 24) (by unfold tyFld; rw [show tyD Try.prog 44 = _ from Try.underlying44]; rfl) (by rw [show tySz Try.prog 24 = 2 from by kernel_rfl]; decide) a
theorem fa44_1 (a : Addr) : pvFA Try.prog 44 (.pointer (some a)) 1 = some (.pointer (some (a.add 2))) := pvFA_eq (F := 3) (by unfold tyFld; rw [show tyD Try.prog 44 = _ from Try.underlying44]; rfl) (by rw [show tySz Try.prog 3 = 1 from by kernel_rfl]; decide) a
theorem fa44_2 (a : Addr) : pvFA Try.prog 44 (.pointer (some a)) 2 = some (.pointer (some (a.add 3))) := pvFA_eq (F := 3) (by unfold tyFld; rw [show tyD Try.prog 44 = _ from Try.underlying44]; rfl) (by rw [show tySz Try.prog 3 = 1 from by kernel_rfl]; decide) a
theorem ia87 (ad : Addr) (m c : Nat) (k : IntKind) (j : Int) : pvIA Try.prog 87 (.slice (some ad) m c) (.int k j) = if 0 ≤ j ∧ j < m then some (.pointer (some (ad.add (j.toNat * 1)))) else none := pvIA_slice Try.underlying87 (by kernel_rfl) (by decide) ad m c k j
theorem ln87 (a : Option Addr) (n c : Nat) : pvB1 Try.prog .len [87] [.slice a n c] = some (.int .i64 n) := pvLen_slice Try.underlying87 a n c
theorem sz91 : tySz Try.prog 91 = 3 := by kernel_rfl
theorem st91 (rs : Array ResultVar) (K : Value → GH → Prop) (s : List It) (ops : List Oper) (md : Option GH) (d : Option Nat) (l : List Oper) (f : Fr) (G : GH) (a : Addr) (x0 x1 x2 : Value) (h : [x0, x1, x2].all oneV = true) : Yst Try.prog rs K s ops md d l f G 91 (.pointer (some a)) (.agg #[x0, x1, x2]) = Yset Try.prog rs K s ops md d l f G a [x0, x1, x2] := Yst_ptr rs K s ops md d l f G ⟨by rw [sz91]; decide, by rw [sz91]; rfl⟩ rfl h
theorem zv91 : tyZ Try.prog 91 = some (.agg #[.int .i64 0, .int .i64 0, .int .i64 0]) := by kernel_rfl
theorem al91 (rs : Array ResultVar) (K : Value → GH → Prop) (s : List It) (ops : List Oper) (md : Option GH) (d : Option Nat) (l : List Oper) (f : Fr) (G : GH) : Yal Try.prog rs K s ops md d l f G 91 = Ynew' Try.prog rs K s ops md d l f G (.cells #[.int .i64 0, .int .i64 0, .int .i64 0] 91 (0, 0)) (fun r => .pointer (some ⟨r, 0, none⟩)) := Yal_eq rs K s ops md d l f G zv91
theorem fa91_0 (a : Addr) : pvFA Try.prog 91 (.pointer (some a)) 0 = some (.pointer (some (a.add 0))) := pvFA_eq (F := 24) (by unfold tyFld; rw [show tyD Try.prog 91 = _ from Try.underlying91]; rfl) (by rw [show tySz Try.prog 24 = 2 from by kernel_rfl]; decide) a
theorem fa91_1 (a : Addr) : pvFA Try.prog 91 (.pointer (some a)) 1 = some (.pointer (some (a.add 2))) := pvFA_eq (F := 3) (by unfold tyFld; rw [show tyD Try.prog 91 = _ from Try.underlying91]; rfl) (by rw [show tySz Try.prog 3 = 1 from by kernel_rfl]; decide) a
theorem sz96 : tySz Try.prog 96 = 3 := by kernel_rfl
theorem st96 (rs : Array ResultVar) (K : Value → GH → Prop) (s : List It) (ops : List Oper) (md : Option GH) (d : Option Nat) (l : List Oper) (f : Fr) (G : GH) (a : Addr) (x0 x1 x2 : Value) (h : [x0, x1, x2].all oneV = true) : Yst Try.prog rs K s ops md d l f G 96 (.pointer (some a)) (.agg #[x0, x1, x2]) = Yset Try.prog rs K s ops md d l f G a [x0, x1, x2] := Yst_ptr rs K s ops md d l f G ⟨by rw [sz96]; decide, by rw [sz96]; rfl⟩ rfl h
theorem zv96 : tyZ Try.prog 96 = some (.agg #[.int .i64 0, .int .i64 0, .int .i64 0]) := by kernel_rfl
theorem al96 (rs : Array ResultVar) (K : Value → GH → Prop) (s : List It) (ops : List Oper) (md : Option GH) (d : Option Nat) (l : List Oper) (f : Fr) (G : GH) : Yal Try.prog rs K s ops md d l f G 96 = Ynew' Try.prog rs K s ops md d l f G (.cells #[.int .i64 0, .int .i64 0, .int .i64 0] 96 (0, 0)) (fun r => .pointer (some ⟨r, 0, none⟩)) := Yal_eq rs K s ops md d l f G zv96
theorem fa96_0 (a : Addr) : pvFA Try.prog 96 (.pointer (some a)) 0 = some (.pointer (some (a.add 0))) := pvFA_eq (F := 24) (by unfold tyFld; rw [show tyD Try.prog 96 = _ from Try.underlying96]; rfl) (by rw [show tySz Try.prog 24 = 2 from by kernel_rfl]; decide) a
theorem fa96_1 (a : Addr) : pvFA Try.prog 96 (.pointer (some a)) 1 = some (.pointer (some (a.add 2))) := pvFA_eq (F := 3) (by unfold tyFld; rw [show tyD Try.prog 96 = _ from Try.underlying96]; rfl) (by rw [show tySz Try.prog 3 = 1 from by kernel_rfl]; decide) a
theorem ia100 (ad : Addr) (m c : Nat) (k : IntKind) (j : Int) : pvIA Try.prog 100 (.slice (some ad) m c) (.int k j) = if 0 ≤ j ∧ j < m then some (.pointer (some (ad.add (j.toNat * 1)))) else none := pvIA_slice Try.underlying100 (by kernel_rfl) (by decide) ad m c k j
theorem ln100 (a : Option Addr) (n c : Nat) : pvB1 Try.prog .len [100] [.slice a n c] = some (.int .i64 n) := pvLen_slice Try.underlying100 a n c
end Go.Proofs.Ytgkdbjnmlecimaa
