/- A part of the proof: texts of this session, joined. -/
import Derived.WalkKit
import Derived.Lib.Hide
import Derived.Below
import Derived.Test.YtjojbhkgdkcaoaaGreatShort
set_option linter.unusedSimpArgs false
set_option linter.unusedVariables false
namespace Go.Bh
open Go.RowKit
inductive VT where
 | int (n : Int)
 | bool (b : Bool)
 | str (s : ByteArray)
 | row (n : Nat) (cs : List VT)
mutual
def VAt (P : Nat → Prop) (w : World) : VT → Value → Prop
 | .int n,v => v = .int .i64 n ∧ -9223372036854775808 ≤ n ∧ n ≤ 9223372036854775807
 | .bool b,v => v = .bool b
 | .str s,v => v = .string s
 | .row n cs,v => ∃ A cap,v = .slice A n cap ∧ n ≤ cap ∧ cap ≤ maxLen ∧ (cs = [] ∨ ∃ b o,A = some ⟨b,o,none⟩ ∧ P b ∧ CAt P w b cs o)
def CAt (P : Nat → Prop) (w : World) (b : Nat) : List VT → Nat → Prop
 | [],_ => True
 | x :: xs,o => (∃ u,w.cell? ⟨b,o,none⟩ = some u ∧ VAt P w x u) ∧ CAt P w b xs (o + 1)
end
mutual
theorem VAt.keep {P P' : Nat → Prop} {w w' : World} (h : ∀ b o u,P b → w.cell? ⟨b,o,none⟩ = some u → P' b ∧ w'.cell? ⟨b,o,none⟩ = some u) (hp : ∀ b,P b → P' b) : ∀ (x : VT) (v : Value),VAt P w x v → VAt P' w' x v
 | .int _,_,hx => hx
 | .bool _,_,hx => hx
 | .str _,_,hx => hx
 | .row n cs,v,⟨A,cap,h1,h2,h3,h4⟩ => ⟨A,cap,h1,h2,h3,h4.imp (fun x => x) fun ⟨b,o,k1,k2,k3⟩ => ⟨b,o,k1,hp b k2,CAt.keep h hp b k2 cs o k3⟩⟩
theorem CAt.keep {P P' : Nat → Prop} {w w' : World} (h : ∀ b o u,P b → w.cell? ⟨b,o,none⟩ = some u → P' b ∧ w'.cell? ⟨b,o,none⟩ = some u) (hp : ∀ b,P b → P' b) (b : Nat) (hb : P b) : ∀ (cs : List VT) (o : Nat),CAt P w b cs o → CAt P' w' b cs o
 | [],_,_ => trivial
 | x :: xs,o,⟨⟨u,h1,h2⟩,h3⟩ => ⟨⟨u,(h b o u hb h1).2,VAt.keep h hp x u h2⟩,CAt.keep h hp b hb xs (o + 1) h3⟩
end
theorem CAt.get {P : Nat → Prop} {w : World} {b : Nat} : ∀ {cs : List VT} {o j : Nat} {x : VT},CAt P w b cs o → cs[j]? = some x → ∃ u,w.cell? ⟨b,o + j,none⟩ = some u ∧ VAt P w x u
 | x :: xs,o,0,y,⟨h1,h2⟩,hj => by simp at hj; subst hj; exact h1
 | x :: xs,o,j + 1,y,⟨h1,h2⟩,hj => by
  obtain ⟨u,h3,h4⟩ := CAt.get h2 (show xs[j]? = some y by simpa using hj)
  exact ⟨u,by rw [show o + (j + 1) = o + 1 + j by omega]; exact h3,h4⟩
abbrev Vt (w : World) (x : VT) (v : Value) : Prop := VAt (fun _ => True) w x v
theorem Vt.below {w w' : World} {x : VT} {v : Value} (h : Vt w x v) (hb : Below w.heap.size w w') : Vt w' x v :=
 VAt.keep (fun b o u _ hc => ⟨trivial,(hb.cell (p := ⟨b,o,none⟩) (World.block_lt_of_cell? w _ hc)).trans hc⟩) (fun _ _ => trivial) x v h
mutual
theorem VAt.bound {w : World} : ∀ (x : VT) (v : Value),Vt w x v → VAt (· < w.heap.size) w x v
 | .int _,_,hx => hx
 | .bool _,_,hx => hx
 | .str _,_,hx => hx
 | .row n cs,v,⟨A,cap,h1,h2,h3,h4⟩ => ⟨A,cap,h1,h2,h3,by
  cases cs with
  | nil => exact .inl rfl
  | cons x xs =>
   rcases h4 with h | ⟨b,o,k1,k2,k3⟩
   ·cases h
   ·exact .inr ⟨b,o,k1,World.block_lt_of_cell? w _ k3.1.choose_spec.1,CAt.bound b (x :: xs) o k3⟩⟩
theorem CAt.bound {w : World} (b : Nat) : ∀ (cs : List VT) (o : Nat),CAt (fun _ => True) w b cs o → CAt (· < w.heap.size) w b cs o
 | [],_,_ => trivial
 | x :: xs,o,⟨⟨u,h1,h2⟩,h3⟩ => ⟨⟨u,h1,VAt.bound x u h2⟩,CAt.bound b xs (o + 1) h3⟩
end
theorem Vt.bound {w : World} {x : VT} {v : Value} (h : Vt w x v) : VAt (· < w.heap.size) w x v := VAt.bound x v h
theorem VAt.below {n : Nat} {w w' : World} {x : VT} {v : Value} (h : VAt (· < n) w x v) (hb : Below n w w') : VAt (· < n) w' x v :=
 VAt.keep (fun b o u hp hc => ⟨hp,(hb.cell (p := ⟨b,o,none⟩) hp).trans hc⟩) (fun _ h => h) x v h
theorem VAt.slice {P : Nat → Prop} {w : World} {n : Nat} {cs : List VT} {v : Value} (h : VAt P w (.row n cs) v) : ∃ A cap,v = .slice A n cap ∧ n ≤ cap ∧ cap ≤ maxLen := by
 obtain ⟨A,cap,h1,h2,h3,_⟩ := h
 exact ⟨A,cap,h1,h2,h3⟩
theorem VAt.at {P : Nat → Prop} {w : World} {n : Nat} {cs : List VT} {A : Option Addr} {m cap j : Nat} {x : VT} (h : VAt P w (.row n cs) (.slice A m cap)) (hj : cs[j]? = some x) :
  ∃ b o u,A = some ⟨b,o,none⟩ ∧ P b ∧ w.cell? ⟨b,o + j,none⟩ = some u ∧ VAt P w x u := by
 obtain ⟨A',cap',h1,h2,h3,h4⟩ := h
 injection h1 with h1
 subst h1
 rcases h4 with rfl | ⟨b,o,rfl,hp,h5⟩
 ·simp at hj
 ·obtain ⟨u,k1,k2⟩ := h5.get hj
  exact ⟨b,o,u,rfl,hp,k1,k2⟩
theorem flat_at {α : Type} (enc : α → List VT) (sz : Nat) (hl : ∀ x,(enc x).length = sz) (j : Nat) (hj : j < sz) : ∀ (l : List α) (i : Nat) (x : α),l[i]? = some x → (l.flatMap enc)[i * sz + j]? = (enc x)[j]?
 | a :: l,0,x,h => by
  simp at h; subst h
  rw [List.flatMap_cons,Nat.zero_mul,Nat.zero_add,List.getElem?_append_left (by rw [hl]; exact hj)]
 | a :: l,i + 1,x,h => by
  rw [List.flatMap_cons,List.getElem?_append_right (by rw [hl]; exact Nat.le_trans (by rw [Nat.add_mul]; omega) (Nat.le_add_right _ _)),hl,show (i + 1) * sz + j - sz = i * sz + j by rw [Nat.add_mul]; omega]
  exact flat_at enc sz hl j hj l i x (by simpa using h)
def ints (l : List Int) : List VT := l.map .int
theorem VAt.int {P : Nat → Prop} {w : World} {l : List Int} {A : Option Addr} {m cap i : Nat} {x : Int} (h : VAt P w (.row l.length (ints l)) (.slice A m cap)) (hi : l[i]? = some x) :
  ∃ b o,A = some ⟨b,o,none⟩ ∧ P b ∧ w.cell? ⟨b,o + i,none⟩ = some (.int .i64 x) ∧ -9223372036854775808 ≤ x ∧ x ≤ 9223372036854775807 := by
 obtain ⟨b,o,u,h1,hp,h2,h3⟩ := h.at (j:=i) (x := .int x) (by simp [ints,hi])
 obtain ⟨rfl,h4,h5⟩ := h3
 exact ⟨b,o,h1,hp,h2,h4,h5⟩
inductive Tm where
 | mk (k n : Int) (l : List Tm)
def Tm.k : Tm → Int | .mk k _ _ => k
def Tm.n : Tm → Int | .mk _ n _ => n
def Tm.l : Tm → List Tm | .mk _ _ l => l
mutual
def encT : Tm → List VT
 | .mk k n l => [.int k,.int n,.row l.length (encTs l)]
def encTs : List Tm → List VT
 | [] => []
 | t :: l => encT t ++ encTs l
end
theorem encT_len : ∀ t,(encT t).length = 3
 | .mk _ _ _ => by simp [encT]
theorem encTs_eq : ∀ l,encTs l = l.flatMap encT
 | [] => by simp [encTs]
 | t :: l => by rw [encTs,encTs_eq l,List.flatMap_cons]
def TsP (P : Nat → Prop) (w : World) (l : List Tm) (v : Value) : Prop := VAt P w (.row l.length (encTs l)) v
abbrev Ts (w : World) (l : List Tm) (v : Value) : Prop := TsP (fun _ => True) w l v
theorem TsP.below {w w' : World} {l : List Tm} {v : Value} (h : Ts w l v) (hb : Below w.heap.size w w') : Ts w' l v := Vt.below h hb
theorem TsP.low {n : Nat} {w w' : World} {l : List Tm} {v : Value} (h : TsP (· < n) w l v) (hb : Below n w w') : TsP (· < n) w' l v := VAt.below h hb
theorem TsP.bound {w : World} {l : List Tm} {v : Value} (h : Ts w l v) : TsP (· < w.heap.size) w l v := Vt.bound h
theorem TsP.slice {P : Nat → Prop} {w : World} {l : List Tm} {v : Value} (h : TsP P w l v) : ∃ A cap,v = .slice A l.length cap ∧ l.length ≤ cap ∧ cap ≤ maxLen := VAt.slice h
theorem TsP.mono {P P' : Nat → Prop} {w : World} {l : List Tm} {v : Value} (h : TsP P w l v) (hp : ∀ b,P b → P' b) : TsP P' w l v := VAt.keep (fun b _ _ hb hc => ⟨hp b hb,hc⟩) hp _ v h
theorem TsP.get {P : Nat → Prop} {w : World} {l : List Tm} {A : Option Addr} {m cap i : Nat} {k n : Int} {l' : List Tm} (h : TsP P w l (.slice A m cap)) (hi : l[i]? = some (.mk k n l')) :
  ∃ b o A' cap',A = some ⟨b,o,none⟩ ∧ P b ∧ w.cell? ⟨b,o + i * 3,none⟩ = some (.int .i64 k) ∧ w.cell? ⟨b,o + i * 3 + 1,none⟩ = some (.int .i64 n) ∧ w.cell? ⟨b,o + i * 3 + 2,none⟩ = some (.slice A' l'.length cap') ∧
   TsP P w l' (.slice A' l'.length cap') ∧ l'.length ≤ cap' ∧ cap' ≤ maxLen ∧ -9223372036854775808 ≤ k ∧ k ≤ 9223372036854775807 ∧ -9223372036854775808 ≤ n ∧ n ≤ 9223372036854775807 := by
 have hf := fun (j : Nat) (hj : j < 3) => flat_at encT 3 encT_len j hj l i _ hi
 rw [← encTs_eq] at hf
 obtain ⟨b,o,u0,e0,hp,c0,⟨rfl,k1,k2⟩⟩ := VAt.at h (j:=i * 3 + 0) (x := .int k) (by rw [hf 0 (by omega)]; simp [encT])
 obtain ⟨b1,o1,u1,e1,_,c1,⟨rfl,n1,n2⟩⟩ := VAt.at h (j:=i * 3 + 1) (x := .int n) (by rw [hf 1 (by omega)]; simp [encT])
 obtain ⟨b2,o2,u2,e2,_,c2,h2⟩ := VAt.at h (j:=i * 3 + 2) (x := .row l'.length (encTs l')) (by rw [hf 2 (by omega)]; simp [encT])
 obtain ⟨rfl,rfl⟩ : b1 = b ∧ o1 = o := by rw [e0] at e1; simp at e1; exact ⟨e1.1.symm,e1.2.symm⟩
 obtain ⟨rfl,rfl⟩ : b2 = b1 ∧ o2 = o1 := by rw [e0] at e2; simp at e2; exact ⟨e2.1.symm,e2.2.symm⟩
 obtain ⟨A',cap',rfl,q1,q2⟩ := VAt.slice h2
 exact ⟨b2,o2,A',cap',e0,hp,c0,by rw [show o2 + i * 3 + 1 = o2 + (i * 3 + 1) by omega]; exact c1,by rw [show o2 + i * 3 + 2 = o2 + (i * 3 + 2) by omega]; exact c2,h2,q1,q2,k1,k2,n1,n2⟩
theorem Tm.ind {motive : Tm → Prop} (h : ∀ k n l,(∀ x ∈ l,motive x) → motive (.mk k n l)) : ∀ t,motive t
 | .mk k n l => h k n l (fun x hx => Tm.ind h x)
end Go.Bh
