/- A part of the proof: texts of this session, joined. -/
import Derived.Test.YtjojbhkgdkcaoaaGreatBehOrderOwn5
import Derived.Test.YtjojbhkgdkcaoaaGreatProg
import Derived.Test.YtjojbhkgdkcaoaaGreatWLast
import Derived.Deep.DeepCutAuto
import Derived.Deep.QuietTactic
import Derived.BigQuiet
import Derived.RangeFuncNested
import Derived.RangeFuncBound
import Derived.RangeFuncCalls
import Derived.RangeFuncLeaves
import Derived.Shelf.Abstract
import Derived.Shelf.RegionOpen
import Derived.OwnWalkIn
import Derived.TacticsInMore
import Derived.LoopNIn
import Derived.LoopIn
import Derived.Laws.EntriesVeiled
import Derived.Outline
import Derived.Test.YtjojbhkgdkcaoaaGreatShort
set_option linter.unusedSimpArgs false
set_option linter.unusedVariables false
namespace Go.Proofs.YtjojbhkgdkcaoaaGreat
open Go.RowKit Go.Bh Go.Proofs.YtjojbhkgdkcaoaaGreatW.PrintLast
section
variable {P : Program} {ops : Array Oper} {Q : Exit → Act → World → Prop}
structure FnIs (P : Program) (f : FuncId) : Prop where
 is : ∃ fn,P.funcs[f]? = some fn ∧ (fn.name == "runtime.NumGoroutine") = false ∧ fn.body.isSome = true
theorem FnIs.run {f : FuncId} (h : FnIs P f) (args : Array Value) (w : World) : (callFunc f args).run P w = .ok (.enter f args) w := by
 obtain ⟨fn,h1,h2,h3⟩ := h.is
 exact enters_ h1 h2 h3 args w
end
theorem below_trans {w w1 w2 : World} (h1 : Below w.heap.size w w1) (h2 : Below w1.heap.size w1 w2) : Below w.heap.size w w2 := h1.trans (h2.mono h1.size)
theorem Below.cellOf {w w' : World} (h : Below w.heap.size w w') {b o : Nat} {u : Value} (hc : w.cell? ⟨b,o,none⟩ = some u) : w'.cell? ⟨b,o,none⟩ = some u :=
 (h.cell (p := ⟨b,o,none⟩) (World.block_lt_of_cell? w _ hc)).trans hc
section
variable {w : World} {v : Value} {f : FuncId} {caps : Array Value}
end
end Go.Proofs.YtjojbhkgdkcaoaaGreat
namespace Go.Proofs.YtjojbhkgdkcaoaaGreat
open Go.RowKit Go.Bh Go.Proofs.YtjojbhkgdkcaoaaGreatW.PrintLast
mutual
def clT : Tm → Bool
 | .mk k _ l => (k != 1) && clTs l
def clTs : List Tm → Bool
 | [] => true
 | t :: l => clT t && clTs l
end
end Go.Proofs.YtjojbhkgdkcaoaaGreat
namespace Go.Proofs.YtjojbhkgdkcaoaaGreat
open Go.RowKit Go.Bh Go.Proofs.YtjojbhkgdkcaoaaGreatW.PrintLast
mutual
def smT : Tm → Int → Int → Bool × Int
 | .mk k n l,c,d => if c - 1 < 0 ∨ 200 < d ∨ (k = 1 ∧ (n < 0 ∨ 1000000 < n)) then (false,c - 1) else smTs l (c - 1) (d + 1)
def smTs : List Tm → Int → Int → Bool × Int
 | [],c,_ => (true,c)
 | t :: l,c,d => if (smT t c d).1 then smTs l (smT t c d).2 d else (false,(smT t c d).2)
end
def isSm (t : Tm) : Bool := (smT t 2000 1).1
end Go.Proofs.YtjojbhkgdkcaoaaGreat
namespace Go.Bh
open Go.RowKit
abbrev InR (n : Int) : Prop := -9223372036854775808 ≤ n ∧ n ≤ 9223372036854775807
structure Off where
 inn : Bool
 s : Int
 t : Tm
structure Pr where
 a : Tm
 b : Tm
def encO (x : Off) : List VT := [.bool x.inn,.int x.s,.int x.t.k,.int x.t.n,.row x.t.l.length (encTs x.t.l)]
def encP (x : Pr) : List VT := [.int x.a.k,.int x.a.n,.row x.a.l.length (encTs x.a.l),.int x.b.k,.int x.b.n,.row x.b.l.length (encTs x.b.l)]
def encOs (l : List Off) : List VT := l.flatMap encO
def encPs (l : List Pr) : List VT := l.flatMap encP
theorem encO_len (x : Off) : (encO x).length = 5 := rfl
theorem encP_len (x : Pr) : (encP x).length = 6 := rfl
theorem encOs_eq (l : List Off) : encOs l = l.flatMap encO := rfl
theorem encPs_eq (l : List Pr) : encPs l = l.flatMap encP := rfl
inductive Be where
 | mk (kind n gate lo hi : Int) (gates : List Int) (offers : List Off) (conds : List Pr) (sorts : List Int) (t : List Tm) (l : List Be)
mutual
def encB : Be → List VT
 | .mk kind n gate lo hi gates offers conds sorts t l => [.int kind,.int n,.int gate,.int lo,.int hi,.row gates.length (ints gates),.row offers.length (encOs offers),.row conds.length (encPs conds),.row sorts.length (ints sorts),.row t.length (encTs t),.row l.length (encBs l)]
def encBs : List Be → List VT
 | [] => []
 | b :: l => encB b ++ encBs l
end
theorem encB_len : ∀ b,(encB b).length = 11
 | .mk _ _ _ _ _ _ _ _ _ _ _ => by simp [encB]
theorem encBs_eq : ∀ l,encBs l = l.flatMap encB
 | [] => by simp [encBs]
 | t :: l => by rw [encBs,encBs_eq l,List.flatMap_cons]
theorem Be.ind {motive : Be → Prop} (h : ∀ kind n gate lo hi gates offers conds sorts t l,(∀ x ∈ l,motive x) → motive (.mk kind n gate lo hi gates offers conds sorts t l)) : ∀ b,motive b
 | .mk kind n gate lo hi gates offers conds sorts t l => h kind n gate lo hi gates offers conds sorts t l (fun x hx => Be.ind h x)
def IsP (P : Nat → Prop) (w : World) (l : List Int) (v : Value) : Prop := VAt P w (.row l.length (ints l)) v
def OsP (P : Nat → Prop) (w : World) (l : List Off) (v : Value) : Prop := VAt P w (.row l.length (encOs l)) v
def PsP (P : Nat → Prop) (w : World) (l : List Pr) (v : Value) : Prop := VAt P w (.row l.length (encPs l)) v
def BsP (P : Nat → Prop) (w : World) (l : List Be) (v : Value) : Prop := VAt P w (.row l.length (encBs l)) v
abbrev Is (w : World) (l : List Int) (v : Value) : Prop := IsP (fun _ => True) w l v
theorem IsP.below {w w' : World} {l : List Int} {v : Value} (h : IsP (fun _ => True) w l v) (hb : Below w.heap.size w w') : IsP (fun _ => True) w' l v := Vt.below h hb
theorem IsP.low {n : Nat} {w w' : World} {l : List Int} {v : Value} (h : IsP (· < n) w l v) (hb : Below n w w') : IsP (· < n) w' l v := VAt.below h hb
theorem IsP.bound {w : World} {l : List Int} {v : Value} (h : IsP (fun _ => True) w l v) : IsP (· < w.heap.size) w l v := Vt.bound h
theorem IsP.slice {P : Nat → Prop} {w : World} {l : List Int} {v : Value} (h : IsP P w l v) : ∃ A cap,v = .slice A l.length cap ∧ l.length ≤ cap ∧ cap ≤ maxLen := VAt.slice h
theorem OsP.below {w w' : World} {l : List Off} {v : Value} (h : OsP (fun _ => True) w l v) (hb : Below w.heap.size w w') : OsP (fun _ => True) w' l v := Vt.below h hb
theorem OsP.low {n : Nat} {w w' : World} {l : List Off} {v : Value} (h : OsP (· < n) w l v) (hb : Below n w w') : OsP (· < n) w' l v := VAt.below h hb
theorem OsP.bound {w : World} {l : List Off} {v : Value} (h : OsP (fun _ => True) w l v) : OsP (· < w.heap.size) w l v := Vt.bound h
theorem OsP.slice {P : Nat → Prop} {w : World} {l : List Off} {v : Value} (h : OsP P w l v) : ∃ A cap,v = .slice A l.length cap ∧ l.length ≤ cap ∧ cap ≤ maxLen := VAt.slice h
theorem PsP.below {w w' : World} {l : List Pr} {v : Value} (h : PsP (fun _ => True) w l v) (hb : Below w.heap.size w w') : PsP (fun _ => True) w' l v := Vt.below h hb
theorem PsP.low {n : Nat} {w w' : World} {l : List Pr} {v : Value} (h : PsP (· < n) w l v) (hb : Below n w w') : PsP (· < n) w' l v := VAt.below h hb
theorem PsP.bound {w : World} {l : List Pr} {v : Value} (h : PsP (fun _ => True) w l v) : PsP (· < w.heap.size) w l v := Vt.bound h
theorem PsP.slice {P : Nat → Prop} {w : World} {l : List Pr} {v : Value} (h : PsP P w l v) : ∃ A cap,v = .slice A l.length cap ∧ l.length ≤ cap ∧ cap ≤ maxLen := VAt.slice h
theorem BsP.below {w w' : World} {l : List Be} {v : Value} (h : BsP (fun _ => True) w l v) (hb : Below w.heap.size w w') : BsP (fun _ => True) w' l v := Vt.below h hb
theorem BsP.low {n : Nat} {w w' : World} {l : List Be} {v : Value} (h : BsP (· < n) w l v) (hb : Below n w w') : BsP (· < n) w' l v := VAt.below h hb
theorem BsP.bound {w : World} {l : List Be} {v : Value} (h : BsP (fun _ => True) w l v) : BsP (· < w.heap.size) w l v := Vt.bound h
theorem BsP.slice {P : Nat → Prop} {w : World} {l : List Be} {v : Value} (h : BsP P w l v) : ∃ A cap,v = .slice A l.length cap ∧ l.length ≤ cap ∧ cap ≤ maxLen := VAt.slice h
theorem IsP.get {P : Nat → Prop} {w : World} {l : List Int} {A : Option Addr} {m cap i : Nat} {x : Int} (h : IsP P w l (.slice A m cap)) (hi : l[i]? = some x) :
  ∃ b o,A = some ⟨b,o,none⟩ ∧ P b ∧ w.cell? ⟨b,o + i,none⟩ = some (.int .i64 x) ∧ InR x := by
 obtain ⟨b,o,h1,h2,h3,h4,h5⟩ := VAt.int h hi
 exact ⟨b,o,h1,h2,h3,h4,h5⟩
theorem OsP.get {P : Nat → Prop} {w : World} {l : List Off} {A : Option Addr} {m cap i : Nat} {x0 : Bool} {x1 x2 x3 : Int} {x4 : List Tm} (h : OsP P w l (.slice A m cap)) (hi : l[i]? = some (⟨x0,x1,.mk x2 x3 x4⟩)) :
  ∃ b o A4 c4,A = some ⟨b,o,none⟩ ∧ P b ∧ w.cell? ⟨b,o + i * 5,none⟩ = some (.bool x0) ∧ w.cell? ⟨b,o + i * 5 + 1,none⟩ = some (.int .i64 x1) ∧ w.cell? ⟨b,o + i * 5 + 2,none⟩ = some (.int .i64 x2) ∧ w.cell? ⟨b,o + i * 5 + 3,none⟩ = some (.int .i64 x3) ∧ w.cell? ⟨b,o + i * 5 + 4,none⟩ = some (.slice A4 x4.length c4) ∧ InR x1 ∧ InR x2 ∧ InR x3 ∧ TsP P w x4 (.slice A4 x4.length c4) := by
 have hf := fun (j : Nat) (hj : j < 5) => flat_at encO 5 encO_len j hj l i _ hi
 rw [← encOs_eq] at hf
 obtain ⟨b0,o0,u0,e0,hp,k0,rfl⟩ := VAt.at h (j:=i * 5 + 0) (x := .bool x0) (by rw [hf 0 (by omega)]; simp [encO,Tm.k,Tm.n,Tm.l])
 obtain ⟨b1,o1,u1,e1,_,k1,⟨rfl,r1⟩⟩ := VAt.at h (j:=i * 5 + 1) (x := .int x1) (by rw [hf 1 (by omega)]; simp [encO,Tm.k,Tm.n,Tm.l])
 obtain ⟨b2,o2,u2,e2,_,k2,⟨rfl,r2⟩⟩ := VAt.at h (j:=i * 5 + 2) (x := .int x2) (by rw [hf 2 (by omega)]; simp [encO,Tm.k,Tm.n,Tm.l])
 obtain ⟨b3,o3,u3,e3,_,k3,⟨rfl,r3⟩⟩ := VAt.at h (j:=i * 5 + 3) (x := .int x3) (by rw [hf 3 (by omega)]; simp [encO,Tm.k,Tm.n,Tm.l])
 obtain ⟨b4,o4,u4,e4,_,k4,h4⟩ := VAt.at h (j:=i * 5 + 4) (x := .row x4.length (encTs x4)) (by rw [hf 4 (by omega)]; simp [encO,Tm.k,Tm.n,Tm.l])
 obtain ⟨rfl,rfl⟩ : b1 = b0 ∧ o1 = o0 := by rw [e0] at e1; simp at e1; exact ⟨e1.1.symm,e1.2.symm⟩
 obtain ⟨rfl,rfl⟩ : b2 = b1 ∧ o2 = o1 := by rw [e1] at e2; simp at e2; exact ⟨e2.1.symm,e2.2.symm⟩
 obtain ⟨rfl,rfl⟩ : b3 = b2 ∧ o3 = o2 := by rw [e2] at e3; simp at e3; exact ⟨e3.1.symm,e3.2.symm⟩
 obtain ⟨rfl,rfl⟩ : b4 = b3 ∧ o4 = o3 := by rw [e3] at e4; simp at e4; exact ⟨e4.1.symm,e4.2.symm⟩
 obtain ⟨A4,c4,rfl,q4,z4⟩ := VAt.slice h4
 exact ⟨b4,o4,A4,c4,e0,hp,k0,by rw [show o4 + i * 5 + 1 = o4 + (i * 5 + 1) by omega]; exact k1,by rw [show o4 + i * 5 + 2 = o4 + (i * 5 + 2) by omega]; exact k2,by rw [show o4 + i * 5 + 3 = o4 + (i * 5 + 3) by omega]; exact k3,by rw [show o4 + i * 5 + 4 = o4 + (i * 5 + 4) by omega]; exact k4,r1,r2,r3,h4⟩
theorem PsP.get {P : Nat → Prop} {w : World} {l : List Pr} {A : Option Addr} {m cap i : Nat} {x0 x1 x3 x4 : Int} {x2 x5 : List Tm} (h : PsP P w l (.slice A m cap)) (hi : l[i]? = some (⟨.mk x0 x1 x2,.mk x3 x4 x5⟩)) :
  ∃ b o A2 c2 A5 c5,A = some ⟨b,o,none⟩ ∧ P b ∧ w.cell? ⟨b,o + i * 6,none⟩ = some (.int .i64 x0) ∧ w.cell? ⟨b,o + i * 6 + 1,none⟩ = some (.int .i64 x1) ∧ w.cell? ⟨b,o + i * 6 + 2,none⟩ = some (.slice A2 x2.length c2) ∧ w.cell? ⟨b,o + i * 6 + 3,none⟩ = some (.int .i64 x3) ∧ w.cell? ⟨b,o + i * 6 + 4,none⟩ = some (.int .i64 x4) ∧ w.cell? ⟨b,o + i * 6 + 5,none⟩ = some (.slice A5 x5.length c5) ∧ InR x0 ∧ InR x1 ∧ TsP P w x2 (.slice A2 x2.length c2) ∧ InR x3 ∧ InR x4 ∧ TsP P w x5 (.slice A5 x5.length c5) := by
 have hf := fun (j : Nat) (hj : j < 6) => flat_at encP 6 encP_len j hj l i _ hi
 rw [← encPs_eq] at hf
 obtain ⟨b0,o0,u0,e0,hp,k0,⟨rfl,r0⟩⟩ := VAt.at h (j:=i * 6 + 0) (x := .int x0) (by rw [hf 0 (by omega)]; simp [encP,Tm.k,Tm.n,Tm.l])
 obtain ⟨b1,o1,u1,e1,_,k1,⟨rfl,r1⟩⟩ := VAt.at h (j:=i * 6 + 1) (x := .int x1) (by rw [hf 1 (by omega)]; simp [encP,Tm.k,Tm.n,Tm.l])
 obtain ⟨b2,o2,u2,e2,_,k2,h2⟩ := VAt.at h (j:=i * 6 + 2) (x := .row x2.length (encTs x2)) (by rw [hf 2 (by omega)]; simp [encP,Tm.k,Tm.n,Tm.l])
 obtain ⟨b3,o3,u3,e3,_,k3,⟨rfl,r3⟩⟩ := VAt.at h (j:=i * 6 + 3) (x := .int x3) (by rw [hf 3 (by omega)]; simp [encP,Tm.k,Tm.n,Tm.l])
 obtain ⟨b4,o4,u4,e4,_,k4,⟨rfl,r4⟩⟩ := VAt.at h (j:=i * 6 + 4) (x := .int x4) (by rw [hf 4 (by omega)]; simp [encP,Tm.k,Tm.n,Tm.l])
 obtain ⟨b5,o5,u5,e5,_,k5,h5⟩ := VAt.at h (j:=i * 6 + 5) (x := .row x5.length (encTs x5)) (by rw [hf 5 (by omega)]; simp [encP,Tm.k,Tm.n,Tm.l])
 obtain ⟨rfl,rfl⟩ : b1 = b0 ∧ o1 = o0 := by rw [e0] at e1; simp at e1; exact ⟨e1.1.symm,e1.2.symm⟩
 obtain ⟨rfl,rfl⟩ : b2 = b1 ∧ o2 = o1 := by rw [e1] at e2; simp at e2; exact ⟨e2.1.symm,e2.2.symm⟩
 obtain ⟨rfl,rfl⟩ : b3 = b2 ∧ o3 = o2 := by rw [e2] at e3; simp at e3; exact ⟨e3.1.symm,e3.2.symm⟩
 obtain ⟨rfl,rfl⟩ : b4 = b3 ∧ o4 = o3 := by rw [e3] at e4; simp at e4; exact ⟨e4.1.symm,e4.2.symm⟩
 obtain ⟨rfl,rfl⟩ : b5 = b4 ∧ o5 = o4 := by rw [e4] at e5; simp at e5; exact ⟨e5.1.symm,e5.2.symm⟩
 obtain ⟨A2,c2,rfl,q2,z2⟩ := VAt.slice h2
 obtain ⟨A5,c5,rfl,q5,z5⟩ := VAt.slice h5
 exact ⟨b5,o5,A2,c2,A5,c5,e0,hp,k0,by rw [show o5 + i * 6 + 1 = o5 + (i * 6 + 1) by omega]; exact k1,by rw [show o5 + i * 6 + 2 = o5 + (i * 6 + 2) by omega]; exact k2,by rw [show o5 + i * 6 + 3 = o5 + (i * 6 + 3) by omega]; exact k3,by rw [show o5 + i * 6 + 4 = o5 + (i * 6 + 4) by omega]; exact k4,by rw [show o5 + i * 6 + 5 = o5 + (i * 6 + 5) by omega]; exact k5,r0,r1,h2,r3,r4,h5⟩
theorem BsP.get {P : Nat → Prop} {w : World} {l : List Be} {A : Option Addr} {m cap i : Nat} {x0 x1 x2 x3 x4 : Int} {x5 x8 : List Int} {x6 : List Off} {x7 : List Pr} {x9 : List Tm} {x10 : List Be} (h : BsP P w l (.slice A m cap)) (hi : l[i]? = some (.mk x0 x1 x2 x3 x4 x5 x6 x7 x8 x9 x10)) :
  ∃ b o A5 c5 A6 c6 A7 c7 A8 c8 A9 c9 A10 c10,A = some ⟨b,o,none⟩ ∧ P b ∧ w.cell? ⟨b,o + i * 11,none⟩ = some (.int .i64 x0) ∧ w.cell? ⟨b,o + i * 11 + 1,none⟩ = some (.int .i64 x1) ∧ w.cell? ⟨b,o + i * 11 + 2,none⟩ = some (.int .i64 x2) ∧ w.cell? ⟨b,o + i * 11 + 3,none⟩ = some (.int .i64 x3) ∧ w.cell? ⟨b,o + i * 11 + 4,none⟩ = some (.int .i64 x4) ∧ w.cell? ⟨b,o + i * 11 + 5,none⟩ = some (.slice A5 x5.length c5) ∧ w.cell? ⟨b,o + i * 11 + 6,none⟩ = some (.slice A6 x6.length c6) ∧ w.cell? ⟨b,o + i * 11 + 7,none⟩ = some (.slice A7 x7.length c7) ∧ w.cell? ⟨b,o + i * 11 + 8,none⟩ = some (.slice A8 x8.length c8) ∧ w.cell? ⟨b,o + i * 11 + 9,none⟩ = some (.slice A9 x9.length c9) ∧ w.cell? ⟨b,o + i * 11 + 10,none⟩ = some (.slice A10 x10.length c10) ∧ InR x0 ∧ InR x1 ∧ InR x2 ∧ InR x3 ∧ InR x4 ∧ IsP P w x5 (.slice A5 x5.length c5) ∧ OsP P w x6 (.slice A6 x6.length c6) ∧ PsP P w x7 (.slice A7 x7.length c7) ∧ IsP P w x8 (.slice A8 x8.length c8) ∧ TsP P w x9 (.slice A9 x9.length c9) ∧ BsP P w x10 (.slice A10 x10.length c10) := by
 have hf := fun (j : Nat) (hj : j < 11) => flat_at encB 11 encB_len j hj l i _ hi
 rw [← encBs_eq] at hf
 obtain ⟨b0,o0,u0,e0,hp,k0,⟨rfl,r0⟩⟩ := VAt.at h (j:=i * 11 + 0) (x := .int x0) (by rw [hf 0 (by omega)]; simp [encB])
 obtain ⟨b1,o1,u1,e1,_,k1,⟨rfl,r1⟩⟩ := VAt.at h (j:=i * 11 + 1) (x := .int x1) (by rw [hf 1 (by omega)]; simp [encB])
 obtain ⟨b2,o2,u2,e2,_,k2,⟨rfl,r2⟩⟩ := VAt.at h (j:=i * 11 + 2) (x := .int x2) (by rw [hf 2 (by omega)]; simp [encB])
 obtain ⟨b3,o3,u3,e3,_,k3,⟨rfl,r3⟩⟩ := VAt.at h (j:=i * 11 + 3) (x := .int x3) (by rw [hf 3 (by omega)]; simp [encB])
 obtain ⟨b4,o4,u4,e4,_,k4,⟨rfl,r4⟩⟩ := VAt.at h (j:=i * 11 + 4) (x := .int x4) (by rw [hf 4 (by omega)]; simp [encB])
 obtain ⟨b5,o5,u5,e5,_,k5,h5⟩ := VAt.at h (j:=i * 11 + 5) (x := .row x5.length (ints x5)) (by rw [hf 5 (by omega)]; simp [encB])
 obtain ⟨b6,o6,u6,e6,_,k6,h6⟩ := VAt.at h (j:=i * 11 + 6) (x := .row x6.length (encOs x6)) (by rw [hf 6 (by omega)]; simp [encB])
 obtain ⟨b7,o7,u7,e7,_,k7,h7⟩ := VAt.at h (j:=i * 11 + 7) (x := .row x7.length (encPs x7)) (by rw [hf 7 (by omega)]; simp [encB])
 obtain ⟨b8,o8,u8,e8,_,k8,h8⟩ := VAt.at h (j:=i * 11 + 8) (x := .row x8.length (ints x8)) (by rw [hf 8 (by omega)]; simp [encB])
 obtain ⟨b9,o9,u9,e9,_,k9,h9⟩ := VAt.at h (j:=i * 11 + 9) (x := .row x9.length (encTs x9)) (by rw [hf 9 (by omega)]; simp [encB])
 obtain ⟨b10,o10,u10,e10,_,k10,h10⟩ := VAt.at h (j:=i * 11 + 10) (x := .row x10.length (encBs x10)) (by rw [hf 10 (by omega)]; simp [encB])
 obtain ⟨rfl,rfl⟩ : b1 = b0 ∧ o1 = o0 := by rw [e0] at e1; simp at e1; exact ⟨e1.1.symm,e1.2.symm⟩
 obtain ⟨rfl,rfl⟩ : b2 = b1 ∧ o2 = o1 := by rw [e1] at e2; simp at e2; exact ⟨e2.1.symm,e2.2.symm⟩
 obtain ⟨rfl,rfl⟩ : b3 = b2 ∧ o3 = o2 := by rw [e2] at e3; simp at e3; exact ⟨e3.1.symm,e3.2.symm⟩
 obtain ⟨rfl,rfl⟩ : b4 = b3 ∧ o4 = o3 := by rw [e3] at e4; simp at e4; exact ⟨e4.1.symm,e4.2.symm⟩
 obtain ⟨rfl,rfl⟩ : b5 = b4 ∧ o5 = o4 := by rw [e4] at e5; simp at e5; exact ⟨e5.1.symm,e5.2.symm⟩
 obtain ⟨rfl,rfl⟩ : b6 = b5 ∧ o6 = o5 := by rw [e5] at e6; simp at e6; exact ⟨e6.1.symm,e6.2.symm⟩
 obtain ⟨rfl,rfl⟩ : b7 = b6 ∧ o7 = o6 := by rw [e6] at e7; simp at e7; exact ⟨e7.1.symm,e7.2.symm⟩
 obtain ⟨rfl,rfl⟩ : b8 = b7 ∧ o8 = o7 := by rw [e7] at e8; simp at e8; exact ⟨e8.1.symm,e8.2.symm⟩
 obtain ⟨rfl,rfl⟩ : b9 = b8 ∧ o9 = o8 := by rw [e8] at e9; simp at e9; exact ⟨e9.1.symm,e9.2.symm⟩
 obtain ⟨rfl,rfl⟩ : b10 = b9 ∧ o10 = o9 := by rw [e9] at e10; simp at e10; exact ⟨e10.1.symm,e10.2.symm⟩
 obtain ⟨A5,c5,rfl,q5,z5⟩ := VAt.slice h5
 obtain ⟨A6,c6,rfl,q6,z6⟩ := VAt.slice h6
 obtain ⟨A7,c7,rfl,q7,z7⟩ := VAt.slice h7
 obtain ⟨A8,c8,rfl,q8,z8⟩ := VAt.slice h8
 obtain ⟨A9,c9,rfl,q9,z9⟩ := VAt.slice h9
 obtain ⟨A10,c10,rfl,q10,z10⟩ := VAt.slice h10
 exact ⟨b10,o10,A5,c5,A6,c6,A7,c7,A8,c8,A9,c9,A10,c10,e0,hp,k0,by rw [show o10 + i * 11 + 1 = o10 + (i * 11 + 1) by omega]; exact k1,by rw [show o10 + i * 11 + 2 = o10 + (i * 11 + 2) by omega]; exact k2,by rw [show o10 + i * 11 + 3 = o10 + (i * 11 + 3) by omega]; exact k3,by rw [show o10 + i * 11 + 4 = o10 + (i * 11 + 4) by omega]; exact k4,by rw [show o10 + i * 11 + 5 = o10 + (i * 11 + 5) by omega]; exact k5,by rw [show o10 + i * 11 + 6 = o10 + (i * 11 + 6) by omega]; exact k6,by rw [show o10 + i * 11 + 7 = o10 + (i * 11 + 7) by omega]; exact k7,by rw [show o10 + i * 11 + 8 = o10 + (i * 11 + 8) by omega]; exact k8,by rw [show o10 + i * 11 + 9 = o10 + (i * 11 + 9) by omega]; exact k9,by rw [show o10 + i * 11 + 10 = o10 + (i * 11 + 10) by omega]; exact k10,r0,r1,r2,r3,r4,h5,h6,h7,h8,h9,h10⟩
end Go.Bh
namespace Go.Proofs.YtjojbhkgdkcaoaaGreat
open Go.RowKit Go.Bh Go.Proofs.YtjojbhkgdkcaoaaGreatW.PrintLast
end Go.Proofs.YtjojbhkgdkcaoaaGreat
namespace Go.Proofs.YtjojbhkgdkcaoaaGreat
open Go.RowKit Go.Bh Go.Shelf Go.Proofs.YtjojbhkgdkcaoaaGreatW.PrintLast
attribute [local go_sem] Oper.semAt_some
def Kpt (own : Nat → Prop) (W W' : World) : Prop := W.heap.size ≤ W'.heap.size ∧ ∀ (k : Nat) (o : Obj),W.heap[k]? = some o → o.isCells = true → ¬ own k → W'.heap[k]? = some o
theorem Kpt.refl {own : Nat → Prop} (W : World) : Kpt own W W := ⟨Nat.le_refl _,fun _ _ h _ _ => h⟩
theorem Kpt.trans {own : Nat → Prop} {A B C : World} (h : Kpt own A B) (k : Kpt own B C) : Kpt own A C := ⟨Nat.le_trans h.1 k.1,fun i o hi ho hw => k.2 i o (h.2 i o hi ho hw) ho hw⟩
theorem Kpt.alloc {own : Nat → Prop} {A B : World} (h : Kpt own A B) (o : Obj) : Kpt own A (B.alloc o) :=
 h.trans ⟨by simp,fun k o' hk _ _ => (Below.heap_alloc B o k (Array.getElem?_eq_some_iff.1 hk).1).trans hk⟩
theorem Kpt.cell {own : Nat → Prop} {A B : World} (h : Kpt own A B) {b o : Nat} {v : Value} (hw : ¬ own b) (hc : A.cell? ⟨b,o,none⟩ = some v) : B.cell? ⟨b,o,none⟩ = some v := by
 unfold World.cell? at hc ⊢
 cases hb : A.heap[b]? with
 | none => simp [hb] at hc
 | some x =>
  cases x with
  | cells c E fr => simp only [hb] at hc; rw [h.2 b _ hb rfl hw]; exact hc
  | _ => simp [hb] at hc
structure TI (n0 : Nat) (w0 : World) where
 t : Tm
 u : Value
 h : TsP (· < n0) w0 t.l u
def TI.v {n0 : Nat} {w0 : World} (x : TI n0 w0) : Value := .agg #[.int .i64 x.t.k,.int .i64 x.t.n,x.u]
def termsOf (os : List Off) (ps : List Pr) (ts : List Tm) : List Tm := os.map (·.t) ++ ps.flatMap (fun p => [p.a,p.b]) ++ ts
end Go.Proofs.YtjojbhkgdkcaoaaGreat
namespace Go.Proofs.YtjojbhkgdkcaoaaGreat
open Go.RowKit Go.Bh Go.Shelf Go.Proofs.YtjojbhkgdkcaoaaGreatW.PrintLast
attribute [local go_sem] Oper.semAt_some
section
variable {own : Nat → Prop} {n0 : Nat} {w0 : World} {gv sv bv : Value} {os : List Off} {ps : List Pr} {ts : List Tm} {k0 k1 k2 k3 k4 : Int}
def AtT (w0 : World) (n0 : Nat) (A : Option Addr) (o : Nat) (x : TI n0 w0) : Prop := ∃ b f,A = some ⟨b,f,none⟩ ∧ b < n0 ∧ w0.cell? ⟨b,f + o,none⟩ = some (.int .i64 x.t.k) ∧ w0.cell? ⟨b,f + o + 1,none⟩ = some (.int .i64 x.t.n) ∧ w0.cell? ⟨b,f + o + 2,none⟩ = some x.u
end
end Go.Proofs.YtjojbhkgdkcaoaaGreat
namespace Go.Proofs.YtjojbhkgdkcaoaaGreat
open Go.RowKit Go.Bh Go.Shelf Go.Proofs.YtjojbhkgdkcaoaaGreatW.PrintLast
attribute [local go_sem] Oper.semAt_some
theorem take_snoc {α : Type} {l : List α} {m : Nat} {x : α} (h : l[m]? = some x) : l.take (m + 1) = l.take m ++ [x] := by
 rw [List.take_add_one,h]; rfl
def flat2 {α : Type} (l : List (α × α)) : List α := l.flatMap fun p => [p.1,p.2]
end Go.Proofs.YtjojbhkgdkcaoaaGreat
namespace Go.Bh
def Be.kind : Be → Int | .mk x _ _ _ _ _ _ _ _ _ _ => x
def Be.n : Be → Int | .mk _ x _ _ _ _ _ _ _ _ _ => x
def Be.gate : Be → Int | .mk _ _ x _ _ _ _ _ _ _ _ => x
def Be.lo : Be → Int | .mk _ _ _ x _ _ _ _ _ _ _ => x
def Be.hi : Be → Int | .mk _ _ _ _ x _ _ _ _ _ _ => x
def Be.gates : Be → List Int | .mk _ _ _ _ _ x _ _ _ _ _ => x
def Be.offers : Be → List Off | .mk _ _ _ _ _ _ x _ _ _ _ => x
def Be.conds : Be → List Pr | .mk _ _ _ _ _ _ _ x _ _ _ => x
def Be.sorts : Be → List Int | .mk _ _ _ _ _ _ _ _ x _ _ => x
def Be.t : Be → List Tm | .mk _ _ _ _ _ _ _ _ _ x _ => x
def Be.l : Be → List Be | .mk _ _ _ _ _ _ _ _ _ _ x => x
end Go.Bh
namespace Go.Proofs.YtjojbhkgdkcaoaaGreat
open Go.RowKit Go.Bh Go.Shelf Go.Proofs.YtjojbhkgdkcaoaaGreatW.PrintLast
attribute [local go_sem] Oper.semAt_some
structure BI (n0 : Nat) (w0 : World) where
 b : Be
 lv : Int
 (vg vo vc vs vt vl : Value)
 hg : IsP (· < n0) w0 b.gates vg
 ho : OsP (· < n0) w0 b.offers vo
 hc : PsP (· < n0) w0 b.conds vc
 hs : IsP (· < n0) w0 b.sorts vs
 ht : TsP (· < n0) w0 b.t vt
 hl : BsP (· < n0) w0 b.l vl
def BI.v {n0 : Nat} {w0 : World} (x : BI n0 w0) : Value := .agg #[.int .i64 x.b.kind,.int .i64 x.b.n,.int .i64 x.b.gate,.int .i64 x.b.lo,.int .i64 x.b.hi,x.vg,x.vo,x.vc,x.vs,x.vt,x.vl]
structure ChildAt {n0 : Nat} {w0 : World} (x : BI n0 w0) (i : Nat) (y : BI n0 w0) : Prop where
 is : x.b.l[i]? = some y.b
 lv : y.lv = wrap64 (x.lv + 1)
 at_ : ∃ b f cap,x.vl = .slice (some ⟨b,f,none⟩) x.b.l.length cap ∧ b < n0 ∧ w0.cell? ⟨b,f + i * 11,none⟩ = some (.int .i64 y.b.kind) ∧ w0.cell? ⟨b,f + i * 11 + 1,none⟩ = some (.int .i64 y.b.n) ∧ w0.cell? ⟨b,f + i * 11 + 2,none⟩ = some (.int .i64 y.b.gate) ∧ w0.cell? ⟨b,f + i * 11 + 3,none⟩ = some (.int .i64 y.b.lo) ∧ w0.cell? ⟨b,f + i * 11 + 4,none⟩ = some (.int .i64 y.b.hi) ∧ w0.cell? ⟨b,f + i * 11 + 5,none⟩ = some (y.vg) ∧ w0.cell? ⟨b,f + i * 11 + 6,none⟩ = some (y.vo) ∧ w0.cell? ⟨b,f + i * 11 + 7,none⟩ = some (y.vc) ∧ w0.cell? ⟨b,f + i * 11 + 8,none⟩ = some (y.vs) ∧ w0.cell? ⟨b,f + i * 11 + 9,none⟩ = some (y.vt) ∧ w0.cell? ⟨b,f + i * 11 + 10,none⟩ = some (y.vl)
inductive Seqs {n0 : Nat} {w0 : World} : BI n0 w0 → List (BI n0 w0) → Prop
 | mk (x : BI n0 w0) (kids : List (BI n0 w0)) (subs : List (List (BI n0 w0))) (h1 : kids.length = x.b.l.length) (h2 : ∀ (i : Nat) (y : BI n0 w0),kids[i]? = some y → ChildAt x i y) (h3 : subs.length = kids.length)
  (h4 : ∀ (i : Nat) (y : BI n0 w0) (ys : List (BI n0 w0)),kids[i]? = some y → subs[i]? = some ys → Seqs y ys) : Seqs x (x :: subs.flatten)
end Go.Proofs.YtjojbhkgdkcaoaaGreat
namespace Go.Proofs.YtjojbhkgdkcaoaaGreat
open Go.RowKit Go.Bh Go.Shelf Go.Proofs.YtjojbhkgdkcaoaaGreatW.PrintLast
attribute [local go_sem] Oper.semAt_some
end Go.Proofs.YtjojbhkgdkcaoaaGreat
namespace Go.Proofs.YtjojbhkgdkcaoaaGreat
open Go.RowKit Go.Bh Go.Shelf Go.Proofs.YtjojbhkgdkcaoaaGreatW.PrintLast
attribute [local go_sem] Oper.semAt_some
theorem Kpt.below {own : Nat → Prop} {A B : World} (h : Below A.heap.size A B) : Kpt own A B :=
 ⟨h.size,fun k o hk _ _ => (h.block k (Array.getElem?_eq_some_iff.1 hk).1).trans hk⟩
def BoxB {n0 : Nat} {w0 : World} (W : World) (Bb : Nat) (x : BI n0 w0) : Prop := W.cell? ⟨Bb,0,none⟩ = some (.int .i64 x.b.kind) ∧ W.cell? ⟨Bb,1,none⟩ = some (.int .i64 x.b.n) ∧ W.cell? ⟨Bb,2,none⟩ = some (.int .i64 x.b.gate) ∧ W.cell? ⟨Bb,3,none⟩ = some (.int .i64 x.b.lo) ∧ W.cell? ⟨Bb,4,none⟩ = some (.int .i64 x.b.hi) ∧ W.cell? ⟨Bb,5,none⟩ = some (x.vg) ∧ W.cell? ⟨Bb,6,none⟩ = some (x.vo) ∧ W.cell? ⟨Bb,7,none⟩ = some (x.vc) ∧ W.cell? ⟨Bb,8,none⟩ = some (x.vs) ∧ W.cell? ⟨Bb,9,none⟩ = some (x.vt) ∧ W.cell? ⟨Bb,10,none⟩ = some (x.vl)
end Go.Proofs.YtjojbhkgdkcaoaaGreat
namespace Go.Proofs.YtjojbhkgdkcaoaaGreat
open Go.RowKit Go.Bh Go.Shelf Go.Proofs.YtjojbhkgdkcaoaaGreatW.PrintLast
attribute [local go_sem] Oper.semAt_some
end Go.Proofs.YtjojbhkgdkcaoaaGreat
namespace Go.Proofs.YtjojbhkgdkcaoaaGreat
open Go.RowKit Go.Bh Go.Shelf Go.Proofs.YtjojbhkgdkcaoaaGreatW.PrintLast
attribute [local go_sem] Oper.semAt_some
def plB (b : Be) (lv : Int) : Bool := decide (lv ≤ 200) && decide (b.offers.length ≤ 8) && decide (b.conds.length ≤ 8) && decide (b.sorts.length ≤ 64) && decide (b.t.length ≤ 64) && decide (b.gates.length ≤ 32) && (termsOf b.offers b.conds b.t).all isSm
def plI {n0 : Nat} {w0 : World} (xs : List (BI n0 w0)) : Bool := decide (xs.length ≤ 2000) && xs.all (fun x => plB x.b x.lv)
theorem cell_at {W : World} {b : Nat} {cs : Array Value} {E : TypeId} (h : W.heap[b]? = some (.cells cs E (0,0))) (i : Nat) {v : Value} (hv : cs[i]? = some v) : W.cell? ⟨b,i,none⟩ = some v := by
 unfold World.cell?; rw [h]; simpa [go_sem] using hv
end Go.Proofs.YtjojbhkgdkcaoaaGreat
namespace Go.Proofs.YtjojbhkgdkcaoaaGreat
open Go.RowKit Go.Bh Go.Shelf Go.Proofs.YtjojbhkgdkcaoaaGreatW.PrintLast
mutual
def walkB : Be → Int → List (Be × Int)
 | .mk kind n gate lo hi gates offers conds sorts t l,lv => (.mk kind n gate lo hi gates offers conds sorts t l,lv) :: walkBs l (wrap64 (lv + 1))
def walkBs : List Be → Int → List (Be × Int)
 | [],_ => []
 | b :: l,lv => walkB b lv ++ walkBs l lv
end
def plainB (b : Be) : Bool := decide ((walkB b 1).length ≤ 2000) && (walkB b 1).all (fun p => plB p.1 p.2)
def BV (P : Nat → Prop) (w : World) (b : Be) (v : Value) : Prop :=
 ∃ vg vo vc vs vt vl,v = .agg #[.int .i64 b.kind,.int .i64 b.n,.int .i64 b.gate,.int .i64 b.lo,.int .i64 b.hi,vg,vo,vc,vs,vt,vl] ∧
  IsP P w b.gates vg ∧ OsP P w b.offers vo ∧ PsP P w b.conds vc ∧ IsP P w b.sorts vs ∧ TsP P w b.t vt ∧ BsP P w b.l vl
abbrev Bv (w : World) (b : Be) (v : Value) : Prop := BV (fun _ => True) w b v
theorem BV.low {n : Nat} {w w' : World} {b : Be} {v : Value} (h : BV (· < n) w b v) (hb : Below n w w') : BV (· < n) w' b v := by
 obtain ⟨vg,vo,vc,vs,vt,vl,h0,h1,h2,h3,h4,h5,h6⟩ := h
 exact ⟨vg,vo,vc,vs,vt,vl,h0,h1.low hb,VAt.below h2 hb,VAt.below h3 hb,h4.low hb,h5.low hb,VAt.below h6 hb⟩
theorem BV.below {w w' : World} {b : Be} {v : Value} (h : Bv w b v) (hb : Below w.heap.size w w') : Bv w' b v := by
 obtain ⟨vg,vo,vc,vs,vt,vl,h0,h1,h2,h3,h4,h5,h6⟩ := h
 exact ⟨vg,vo,vc,vs,vt,vl,h0,Vt.below h1 hb,Vt.below h2 hb,Vt.below h3 hb,Vt.below h4 hb,Vt.below h5 hb,Vt.below h6 hb⟩
theorem BV.bound {w : World} {b : Be} {v : Value} (h : Bv w b v) : BV (· < w.heap.size) w b v := by
 obtain ⟨vg,vo,vc,vs,vt,vl,h0,h1,h2,h3,h4,h5,h6⟩ := h
 exact ⟨vg,vo,vc,vs,vt,vl,h0,Vt.bound h1,Vt.bound h2,Vt.bound h3,Vt.bound h4,Vt.bound h5,Vt.bound h6⟩
end Go.Proofs.YtjojbhkgdkcaoaaGreat
