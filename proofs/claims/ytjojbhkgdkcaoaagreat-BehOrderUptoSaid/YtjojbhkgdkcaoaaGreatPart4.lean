/- A part of the proof: texts of this session, joined. -/
import Derived.Test.YtjojbhkgdkcaoaaGreatPart3
import Derived.Test.YtjojbhkgdkcaoaaGreatShort
set_option linter.unusedSimpArgs false
set_option linter.unusedVariables false
namespace Go.Ev
open Go
inductive En where
 | skip
 | quiet (v : LV)
 | alloc (x : LObj) (v : LV)
 | load (b off : Nat) (vs : List LV) (v : LV)
 | chain (g o : H) (v : LV)
 | dead (g o : H) (v : LV)
def PutOK (n : Nat) (t : Tr LV) (dst : Option Tmp) (v : LV) (t' : Tr LV) : Prop := (dst = none ∧ t' = t) ∨ ∃ d,dst = some d ∧ d < n ∧ d < 1000000 ∧ t' = Tr.put 20 t d (some v)
theorem putT_put {α : Type} {n : Nat} {t : Tr LV} {dst : Option Tmp} {v : LV} {k : Tr LV → α} {e : α} {Φ : α → Prop} (h0 : Φ e) (h1 : ∀ t',PutOK n t dst v t' → Φ (k t')) : Φ (putT t n dst v k e) := by
 unfold putT
 cases dst with
 | none => exact h1 t (.inl ⟨rfl,rfl⟩)
 | some d =>
  simp only [blt_dec,cond_eq_ite,Bool.and_eq_true,decide_eq_true_eq]
  split
  ·rename_i hc; rw [fL_eq,Tr.putC_eq]; exact h1 _ (.inr ⟨d,rfl,hc.1,hc.2,rfl⟩)
  ·exact h0
theorem PutOK.get {n : Nat} {t t' : Tr LV} {dst : Option Tmp} {v : LV} (h : PutOK n t dst v t') (x : Nat) : getT t' x = if dst = some x then v else getT t x := by
 rcases h with ⟨rfl,rfl⟩ | ⟨d,rfl,h1,h2,rfl⟩
 ·simp
 ·unfold getT
  rw [Tr.get_put20 _ _ _ (by simp [blt_dec,h2])]
  by_cases e : x = d
  ·subst e; simp
  ·have : ¬ d = x := fun h => e h.symm
   simp [e,this]
def PromR (bs : Array Nat) (c j : Option Nat) (al : List (Nat × Nat × LObj)) (h h' : H) : Prop :=
 h'.next = h.next ∧ ∀ b o,h'.m.get b = some o → h.m.get b = some o ∨ ∃ a,(a,b,o) ∈ al ∧ promB bs c j a = true
theorem promote_elim {α : Type} {bs : Array Nat} {c j : Option Nat} {k : H → α} {e : α} {Φ : α → Prop} (h0 : Φ e) : ∀ (al : List (Nat × Nat × LObj)) (h : H),(∀ h',PromR bs c j al h h' → Φ (k h')) → Φ (promote bs c j al h k e) := by
 intro al
 induction al with
 | nil => intro h h1; exact h1 h ⟨rfl,fun b o hb => .inl hb⟩
 | cons x al ih =>
  intro h h1
  obtain ⟨a,b,o⟩ := x
  unfold promote
  cases hp : promB bs c j a with
  | false =>
   simp only [cond_false]
   exact ih h fun h' ⟨q1,q2⟩ => h1 h' ⟨q1,fun b' o' hb' => (q2 b' o' hb').imp id fun ⟨a',m,q⟩ => ⟨a',List.mem_cons_of_mem _ m,q⟩⟩
  | true =>
   simp only [cond_true]
   refine set_elim h0 fun hlt => ih _ fun h' ⟨q1,q2⟩ => h1 h' ⟨q1,fun b' o' hb' => ?_⟩
   rcases q2 b' o' hb' with hg | ⟨a',m,q⟩
   ·dsimp only at hg
    rw [Tr.get_put20 _ _ _ hlt] at hg
    split at hg
    ·rename_i e; cases hg; subst e; exact .inr ⟨a,List.mem_cons_self,hp⟩
    ·exact .inl hg
   ·exact .inr ⟨a',List.mem_cons_of_mem _ m,q⟩
section
variable (P : Program) (all : Array Oper) (bs : Array Nat) (n base : Nat) (call : FuncId → List LV → H → Res)
structure Same (s s' : RS) : Prop where
 h : s'.h = s.h
 snaps : s'.snaps = s.snaps
 dead : s'.dead = s.dead
def StepR (i : Nat) (o : Oper) (s : RS) (E : En) (s' : RS) : Prop := match E with
 | .skip => s' = s ∧ ∃ c v h,s.dead = some (c,v,h) ∧ Pre bs c i
 | .quiet v => PutOK n s.t o.dst v s'.t ∧ Same s s' ∧ s'.allocs = s.allocs ∧ s'.watch = s.watch ∧ ((wantedG all s.t o.guard = false ∧ v = undefL) ∨ (wantedG all s.t o.guard = true ∧ lpure P s.t o.op o.type = .ok v))
 | .alloc x v => PutOK n s.t o.dst v s'.t ∧ Same s s' ∧ s'.allocs = (i,base + i,x) :: s.allocs ∧ s'.watch = s.watch ∧ wantedG all s.t o.guard = true ∧ ∃ mk,lalloc P s.t o.op = some (x,mk) ∧ v = mk (base + i)
 | .load b off vs v => PutOK n s.t o.dst v s'.t ∧ Same s s' ∧ s'.allocs = s.allocs ∧ s'.watch = (i,b,off,vs) :: s.watch ∧ wantedG all s.t o.guard = true ∧
   ∃ ty a m,o.op = .load ty a ∧ ev s.t a = .ptr b off ∧ loadSize P ty = some m ∧ s.h.read b off m = some vs ∧ stable bs i b off m vs s.snaps = true ∧ loadL P s.h ty b off = some v
 | .chain g out v => PutOK n s.t o.dst v s'.t ∧ s'.h = out ∧ s'.snaps = (some i,out) :: s.snaps ∧ s'.dead = none ∧ s.dead = none ∧ s'.allocs = s.allocs ∧ s'.watch = s.watch ∧ wantedG all s.t o.guard = true ∧
   afterChain bs (lastChain s.snaps) i = true ∧ PromR bs (lastChain s.snaps) (some i) s.allocs s.h g ∧ (∃ p,callOut call g (lheap P s.t g o.op) = .ret v out p) ∧ watchOK bs i out s.watch = true
 | .dead g out v => s'.t = s.t ∧ s'.h = s.h ∧ s'.snaps = s.snaps ∧ s'.dead = some (i,v,out) ∧ s.dead = none ∧ s'.allocs = s.allocs ∧ s'.watch = s.watch ∧ wantedG all s.t o.guard = true ∧
   afterChain bs (lastChain s.snaps) i = true ∧ PromR bs (lastChain s.snaps) (some i) s.allocs s.h g ∧ (∃ p,callOut call g (lheap P s.t g o.op) = .panicked v out p)
variable {P all bs n base call}
theorem stepR_elim {α : Type} {i : Nat} {o : Oper} {s : RS} {k : RS → α} {e : α} {Φ : α → Prop} (h0 : Φ e) (h1 : ∀ E s',StepR P all bs n base call i o s E s' → (E = .skip ∨ afterDead bs s.dead i = false) → Φ (k s')) :
  Φ (stepR P all bs n base call i o s k e) := by
 obtain ⟨dst,op,type,pos,af,guard⟩ := o
 unfold stepR
 dsimp only
 cases hd : afterDead bs s.dead i with
 | true =>
  simp only [cond_true]
  refine h1 .skip s ⟨rfl,?_⟩ (.inl rfl)
  unfold afterDead at hd
  split at hd
  ·rename_i c v h hdd; exact ⟨c,v,h,hdd,hd⟩
  ·cases hd
 | false =>
  simp only [cond_false]
  cases hw : wantedG all s.t guard with
  | false =>
   simp only [cond_false]
   exact putT_put (Φ := Φ) h0 fun t' ht => h1 (.quiet undefL) _ ⟨ht,⟨rfl,rfl,rfl⟩,rfl,rfl,.inl ⟨hw,rfl⟩⟩ (.inr hd)
  | true =>
   simp only [cond_true]
   unfold pureR
   cases hp : lpure P s.t op type with
   | ok v => exact putT_put (Φ := Φ) h0 fun t' ht => h1 (.quiet v) _ ⟨ht,⟨rfl,rfl,rfl⟩,rfl,rfl,.inr ⟨hw,hp⟩⟩ (.inr hd)
   | panic v => exact h0
   | no =>
    dsimp only
    unfold allocR
    cases hx : lalloc P s.t op with
    | some y =>
     obtain ⟨x,mk⟩ := y
     dsimp only
     rw [fN_eq]
     exact putT_put (Φ := Φ) h0 fun t' ht => h1 (.alloc x (mk (base + i))) _ ⟨ht,⟨rfl,rfl,rfl⟩,rfl,rfl,hw,mk,hx,rfl⟩ (.inr hd)
    | none =>
     dsimp only
     have hchain : ∀ op',op' = op → Φ (chainR P bs n call i dst op' s k e) := by
      intro op' hop
      subst hop
      unfold chainR
      cases hdead : s.dead with
      | some x => exact h0
      | none =>
       dsimp only
       cases hac : afterChain bs (lastChain s.snaps) i with
       | false => exact h0
       | true =>
        simp only [cond_true]
        refine promote_elim (Φ := Φ) h0 _ _ fun g hg => ?_
        unfold chainDone
        split
        ·rename_i v out p hres
         cases hwo : watchOK bs i out s.watch with
         | false => exact h0
         | true =>
          simp only [cond_true]
          exact putT_put (Φ := Φ) h0 fun t' ht => h1 (.chain g out v) _ ⟨ht,rfl,rfl,rfl,hdead,rfl,rfl,hw,hac,hg,⟨p,hres⟩,hwo⟩ (.inr hd)
        ·rename_i v out p hres
         exact h1 (.dead g out v) _ ⟨rfl,rfl,rfl,rfl,hdead,rfl,rfl,hw,hac,hg,⟨p,hres⟩⟩ (.inr hd)
        ·exact h0
     unfold memR
     split
     ·rename_i ty a
      split
      ·rename_i b off hev
       unfold loadR
       split
       ·rename_i m hm
        split
        ·rename_i vs hvs
         cases hst : stable bs i b off m vs s.snaps with
         | false => exact h0
         | true =>
          simp only [cond_true]
          split
          ·rename_i v hv
           exact putT_put (Φ := Φ) h0 fun t' ht => h1 (.load b off vs v) _ ⟨ht,⟨rfl,rfl,rfl⟩,rfl,rfl,hw,ty,a,m,rfl,hev,hm,hvs,hst,hv⟩ (.inr hd)
          ·exact h0
        ·exact h0
       ·exact h0
      ·exact h0
     ·exact hchain _ rfl
theorem runR_elim {α : Type} {k : RS → α} {e : α} {Φ : α → Prop} (h0 : Φ e) : ∀ (l : List Oper) (i : Nat) (s : RS),l = all.toList.drop i →
  (∀ (S : Nat → RS) (E : Nat → En),S i = s → (∀ j o,i ≤ j → all[j]? = some o → StepR P all bs n base call j o (S j) (E j) (S (j + 1)) ∧ (E j = .skip ∨ afterDead bs (S j).dead j = false)) → Φ (k (S (i + l.length)))) →
  Φ (runR P all bs n base call l i s k e) := by
 intro l
 induction l with
 | nil =>
  intro i s hl h1
  exact h1 (fun _ => s) (fun _ => .skip) rfl fun j o hij ho => by
   have hlt : j < all.toList.length := by simpa using (Array.getElem?_eq_some_iff.1 ho).1
   have : all.toList.drop i = [] := hl.symm
   rw [List.drop_eq_nil_iff] at this
   omega
 | cons o l ih =>
  intro i s hl h1
  have hlt : i < all.toList.length := by
   rcases Nat.lt_or_ge i all.toList.length with h | h
   ·exact h
   ·rw [List.drop_eq_nil_of_le h] at hl; cases hl
  rw [List.drop_eq_getElem_cons hlt] at hl
  simp only [List.cons.injEq] at hl
  obtain ⟨ho,hl⟩ := hl
  have hoi : all[i]? = some o := by rw [← Array.getElem?_toList,List.getElem?_eq_getElem hlt,← ho]
  unfold runR
  refine stepR_elim (Φ := Φ) h0 fun E1 s' hst hsk => ih (i + 1) s' hl fun S E hS hrun => ?_
  have := h1 (fun j => if j = i then s else S j) (fun j => if j = i then E1 else E j) (by simp) (fun j o' hij ho' => by
   by_cases e : j = i
   ·subst e
    rw [hoi] at ho'; cases ho'
    simp only [if_true,if_neg (Nat.succ_ne_self j),hS]
    exact ⟨hst,hsk⟩
   ·have h2 : ¬ (j + 1 = i) := by omega
    simp only [if_neg e,if_neg h2]
    exact hrun j o' (by omega) ho')
  simp only [List.length_cons] at this ⊢
  rw [if_neg (by omega),show i + (l.length + 1) = i + 1 + l.length by omega] at this
  exact this
end
end Go.Ev
namespace Go.Ev
open Go
def En.out : En → Option LV
 | .skip => none
 | .quiet v => some v
 | .alloc _ v => some v
 | .load _ _ _ v => some v
 | .chain _ _ v => some v
 | .dead _ _ _ => none
structure Ran (P : Program) (ops : Array Oper) (n base : Nat) (call : FuncId → List LV → H → Res) (t0 : Tr LV) (H0 : H) (S : Nat → RS) (E : Nat → En) : Prop where
 start : S 0 = ⟨t0,H0,[],[],[(none,H0)],none⟩
 step : ∀ j o,ops[j]? = some o → StepR P ops (Region.before ops) n base call j o (S j) (E j) (S (j + 1)) ∧ (E j = .skip ∨ afterDead (Region.before ops) (S j).dead j = false)
 edges : ∀ (k : Nat) (o : Oper),ops[k]? = some o → ∀ e ∈ o.after,Region.binds .any e = true → e.on < k
def isCh (E : Nat → En) (c : Nat) : Prop := ∃ g o v,E c = .chain g o v
def snapsOf (H0 : H) (E : Nat → En) : Nat → List (Option Nat × H)
 | 0 => [(none,H0)]
 | i + 1 => match E i with
  | .chain _ o _ => (some i,o) :: snapsOf H0 E i
  | _ => snapsOf H0 E i
def deadOf (E : Nat → En) : Nat → Option (Nat × LV × H)
 | 0 => none
 | i + 1 => match E i with
  | .dead _ o v => some (i,v,o)
  | _ => deadOf E i
def heapOf (H0 : H) (E : Nat → En) : Option Nat → H
 | none => H0
 | some c => match E c with
  | .chain _ o _ => o
  | _ => H0
section
variable {P : Program} {ops : Array Oper} {n base : Nat} {call : FuncId → List LV → H → Res} {t0 : Tr LV} {H0 : H} {S : Nat → RS} {E : Nat → En}
theorem oper_at {i : Nat} (h : i < ops.size) : ∃ o,ops[i]? = some o := ⟨ops[i],by simp [h]⟩
theorem snaps_eq (R : Ran P ops n base call t0 H0 S E) : ∀ i,i ≤ ops.size → (S i).snaps = snapsOf H0 E i := by
 intro i
 induction i with
 | zero => intro _; rw [R.start]; rfl
 | succ i ih =>
  intro hi
  obtain ⟨o,ho⟩ := oper_at (ops := ops) (i:=i) (by omega)
  obtain ⟨hs,_⟩ := R.step i o ho
  have ih := ih (by omega)
  unfold StepR at hs
  simp only [snapsOf]
  cases hE : E i with
  | skip => rw [hE] at hs; obtain ⟨h1,_⟩ := hs; rw [h1]; exact ih
  | quiet v => rw [hE] at hs; rw [hs.2.1.snaps]; exact ih
  | alloc x v => rw [hE] at hs; rw [hs.2.1.snaps]; exact ih
  | load b off vs v => rw [hE] at hs; rw [hs.2.1.snaps]; exact ih
  | chain g out v => rw [hE] at hs; obtain ⟨_,_,h3,_⟩ := hs; rw [h3,ih]
  | dead g out v => rw [hE] at hs; obtain ⟨_,_,h3,_⟩ := hs; rw [h3]; exact ih
theorem dead_eq (R : Ran P ops n base call t0 H0 S E) : ∀ i,i ≤ ops.size → (S i).dead = deadOf E i := by
 intro i
 induction i with
 | zero => intro _; rw [R.start]; rfl
 | succ i ih =>
  intro hi
  obtain ⟨o,ho⟩ := oper_at (ops := ops) (i:=i) (by omega)
  obtain ⟨hs,_⟩ := R.step i o ho
  have ih := ih (by omega)
  unfold StepR at hs
  simp only [deadOf]
  cases hE : E i with
  | skip => rw [hE] at hs; obtain ⟨h1,_⟩ := hs; rw [h1]; exact ih
  | quiet v => rw [hE] at hs; rw [hs.2.1.dead]; exact ih
  | alloc x v => rw [hE] at hs; rw [hs.2.1.dead]; exact ih
  | load b off vs v => rw [hE] at hs; rw [hs.2.1.dead]; exact ih
  | chain g out v => rw [hE] at hs; obtain ⟨_,_,_,h4,h5,_⟩ := hs; rw [h4,← ih,h5]
  | dead g out v => rw [hE] at hs; obtain ⟨_,_,_,h4,_⟩ := hs; exact h4
theorem heap_eq (R : Ran P ops n base call t0 H0 S E) : ∀ i,i ≤ ops.size → (S i).h = heapOf H0 E (lastChain (snapsOf H0 E i)) := by
 intro i
 induction i with
 | zero => intro _; rw [R.start]; rfl
 | succ i ih =>
  intro hi
  obtain ⟨o,ho⟩ := oper_at (ops := ops) (i:=i) (by omega)
  obtain ⟨hs,_⟩ := R.step i o ho
  have ih := ih (by omega)
  unfold StepR at hs
  simp only [snapsOf]
  cases hE : E i with
  | skip => rw [hE] at hs; obtain ⟨h1,_⟩ := hs; rw [h1]; exact ih
  | quiet v => rw [hE] at hs; rw [hs.2.1.h]; exact ih
  | alloc x v => rw [hE] at hs; rw [hs.2.1.h]; exact ih
  | load b off vs v => rw [hE] at hs; rw [hs.2.1.h]; exact ih
  | chain g out v => rw [hE] at hs; obtain ⟨_,h2,_⟩ := hs; rw [h2]; simp [lastChain,heapOf,hE]
  | dead g out v => rw [hE] at hs; obtain ⟨_,h2,_⟩ := hs; rw [h2]; exact ih
theorem last_spec : ∀ i,(∀ c,lastChain (snapsOf H0 E i) = some c → c < i ∧ isCh E c) ∧ (∀ c,c < i → isCh E c → ∃ c',lastChain (snapsOf H0 E i) = some c' ∧ c ≤ c') := by
 intro i
 induction i with
 | zero => exact ⟨fun c h => by simp [snapsOf,lastChain] at h,fun c h => by omega⟩
 | succ i ih =>
  obtain ⟨h1,h2⟩ := ih
  by_cases hch : isCh E i
  ·obtain ⟨g,o,v,hE⟩ := hch
   have : lastChain (snapsOf H0 E (i + 1)) = some i := by simp [snapsOf,hE,lastChain]
   refine ⟨fun c h => ?_,fun c hc _ => ⟨i,this,by omega⟩⟩
   rw [this] at h; cases h
   exact ⟨Nat.lt_succ_self _,g,o,v,hE⟩
  ·have : snapsOf H0 E (i + 1) = snapsOf H0 E i := by
    simp only [snapsOf]
    split
    ·rename_i g o v hE; exact absurd ⟨g,o,v,hE⟩ hch
    ·rfl
   rw [this]
   refine ⟨fun c h => ⟨by have := (h1 c h).1; omega,(h1 c h).2⟩,fun c hc hcc => h2 c ?_ hcc⟩
   rcases Nat.lt_succ_iff_lt_or_eq.1 hc with h | rfl
   ·exact h
   ·exact absurd hcc hch
theorem alloc_mem (R : Ran P ops n base call t0 H0 S E) : ∀ i,i ≤ ops.size → ∀ a b x,(a,b,x) ∈ (S i).allocs → a < i ∧ b = base + a ∧ ∃ v,E a = .alloc x v := by
 intro i
 induction i with
 | zero => intro _ a b x h; rw [R.start] at h; cases h
 | succ i ih =>
  intro hi a b x hm
  obtain ⟨o,ho⟩ := oper_at (ops := ops) (i:=i) (by omega)
  obtain ⟨hs,_⟩ := R.step i o ho
  have ih := ih (by omega) a b x
  have up : (a < i ∧ b = base + a ∧ ∃ v,E a = .alloc x v) → (a < i + 1 ∧ b = base + a ∧ ∃ v,E a = .alloc x v) := fun ⟨h1,h2⟩ => ⟨by omega,h2⟩
  unfold StepR at hs
  cases hE : E i with
  | skip => rw [hE] at hs; obtain ⟨h1,_⟩ := hs; rw [h1] at hm; exact up (ih hm)
  | quiet v => rw [hE] at hs; rw [hs.2.2.1] at hm; exact up (ih hm)
  | alloc y v =>
   rw [hE] at hs
   rw [hs.2.2.1] at hm
   rcases List.mem_cons.1 hm with h | h
   ·cases h; exact ⟨by omega,rfl,v,hE⟩
   ·exact up (ih h)
  | load b off vs v => rw [hE] at hs; rw [hs.2.2.1] at hm; exact up (ih hm)
  | chain g out v => rw [hE] at hs; obtain ⟨_,_,_,_,_,h6,_⟩ := hs; rw [h6] at hm; exact up (ih hm)
  | dead g out v => rw [hE] at hs; obtain ⟨_,_,_,_,_,h6,_⟩ := hs; rw [h6] at hm; exact up (ih hm)
theorem watch_mem (R : Ran P ops n base call t0 H0 S E) : ∀ i,i ≤ ops.size → ∀ a b off vs v,a < i → E a = .load b off vs v → (a,b,off,vs) ∈ (S i).watch := by
 intro i
 induction i with
 | zero => intro _ a b off vs v h; omega
 | succ i ih =>
  intro hi a b off vs v ha hEa
  obtain ⟨o,ho⟩ := oper_at (ops := ops) (i:=i) (by omega)
  obtain ⟨hs,_⟩ := R.step i o ho
  unfold StepR at hs
  by_cases e : a = i
  ·subst e
   rw [hEa] at hs
   rw [hs.2.2.2.1]; exact List.mem_cons_self
  ·have ih := ih (by omega) a b off vs v (by omega) hEa
   cases hE : E i with
   | skip => rw [hE] at hs; obtain ⟨h1,_⟩ := hs; rw [h1]; exact ih
   | quiet v => rw [hE] at hs; rw [hs.2.2.2.1]; exact ih
   | alloc y v => rw [hE] at hs; rw [hs.2.2.2.1]; exact ih
   | load b off vs v => rw [hE] at hs; rw [hs.2.2.2.1]; exact List.mem_cons_of_mem _ ih
   | chain g out v => rw [hE] at hs; obtain ⟨_,_,_,_,_,_,h7,_⟩ := hs; rw [h7]; exact ih
   | dead g out v => rw [hE] at hs; obtain ⟨_,_,_,_,_,_,h7,_⟩ := hs; rw [h7]; exact ih
theorem chain_pre (R : Ran P ops n base call t0 H0 S E) : ∀ (i : Nat),i < ops.size → (isCh E i ∨ ∃ g o v,E i = .dead g o v) → ∀ c,c < i → isCh E c → Pre (Region.before ops) c i := by
 intro i
 induction i using Nat.strongRecOn with
 | _ i ih =>
  intro hi hcd c hc hch
  obtain ⟨o,ho⟩ := oper_at (ops := ops) hi
  obtain ⟨hs,_⟩ := R.step i o ho
  have hsn := snaps_eq R i (by omega)
  have hac : afterChain (Region.before ops) (lastChain (snapsOf H0 E i)) i = true := by
   unfold StepR at hs
   rcases hcd with ⟨g,out,v,hE⟩ | ⟨g,out,v,hE⟩
   ·rw [hE] at hs; obtain ⟨_,_,_,_,_,_,_,_,h9,_⟩ := hs; rw [hsn] at h9; exact h9
   ·rw [hE] at hs; obtain ⟨_,_,_,_,_,_,_,_,h9,_⟩ := hs; rw [hsn] at h9; exact h9
  obtain ⟨l1,l2⟩ := last_spec (H0 := H0) (E := E) i
  obtain ⟨c',hl,hle⟩ := l2 c hc hch
  rw [hl] at hac
  have hpc : Pre (Region.before ops) c' i := hac
  by_cases e : c = c'
  ·rw [e]; exact hpc
  ·obtain ⟨h3,h4⟩ := l1 c' hl
   exact pre_trans R.edges (ih c' h3 (by omega) (.inl h4) c (by omega) hch) hpc
theorem temps_step (R : Ran P ops n base call t0 H0 S E) {j : Nat} {o : Oper} (ho : ops[j]? = some o) (x : Nat) : getT (S (j + 1)).t x = (match (E j).out with | some v => if o.dst = some x then v else getT (S j).t x | none => getT (S j).t x) := by
 obtain ⟨hs,_⟩ := R.step j o ho
 unfold StepR at hs
 cases hE : E j with
 | skip => rw [hE] at hs; obtain ⟨h1,_⟩ := hs; rw [h1]; rfl
 | quiet v => rw [hE] at hs; exact hs.1.get x
 | alloc y v => rw [hE] at hs; exact hs.1.get x
 | load b off vs v => rw [hE] at hs; exact hs.1.get x
 | chain g out v => rw [hE] at hs; exact hs.1.get x
 | dead g out v => rw [hE] at hs; obtain ⟨h1,_⟩ := hs; rw [h1]; rfl
theorem temps_same (R : Ran P ops n base call t0 H0 S E) {x : Nat} : ∀ (d m : Nat),m + d ≤ ops.size → (∀ j o,m ≤ j → j < m + d → ops[j]? = some o → o.dst ≠ some x) → getT (S (m + d)).t x = getT (S m).t x := by
 intro d
 induction d with
 | zero => intro m _ _; rfl
 | succ d ih =>
  intro m hm hno
  obtain ⟨o,ho⟩ := oper_at (ops := ops) (i:=m + d) (by omega)
  have h1 := temps_step R ho x
  rw [show m + (d + 1) = m + d + 1 by omega,h1]
  have h2 := hno (m + d) o (by omega) (by omega) ho
  have h3 := ih m (by omega) fun j o hj hj2 => hno j o hj (by omega)
  cases (E (m + d)).out with
  | none => exact h3
  | some v => dsimp only; rw [if_neg h2]; exact h3
theorem stable_spec {i b off m : Nat} {vs : List LV} : ∀ k,stable (Region.before ops) i b off m vs (snapsOf H0 E k) = true → ∀ c : Option Nat,(∀ c',c = some c' → c' < k ∧ isCh E c') →
  (∃ c2,c2 < k ∧ isCh E c2 ∧ (∀ c',c = some c' → c' < c2) ∧ Pre (Region.before ops) c2 i) ∨ sameCells ((heapOf H0 E c).read b off m) vs = true := by
 intro k
 induction k with
 | zero =>
  intro h c hc
  right
  cases c with
  | none => simp only [snapsOf,stable,Bool.and_eq_true] at h; exact h.1
  | some c' => have := (hc c' rfl).1; omega
 | succ k ih =>
  intro h c hc
  by_cases hch : isCh E k
  ·obtain ⟨g,o,v,hE⟩ := hch
   have hsn : snapsOf H0 E (k + 1) = (some k,o) :: snapsOf H0 E k := by simp [snapsOf,hE]
   rw [hsn] at h
   simp only [stable,Bool.and_eq_true,Bool.or_eq_true] at h
   obtain ⟨h1,h2⟩ := h
   by_cases e : c = some k
   ·right; rw [e]; simp only [heapOf,hE]; exact h1
   ·have hck : ∀ c',c = some c' → c' < k := fun c' hc' => by
     have := (hc c' hc').1
     have : c' ≠ k := fun h => e (by rw [hc',h])
     omega
    rcases h2 with h2 | h2
    ·exact .inl ⟨k,Nat.lt_succ_self _,⟨g,o,v,hE⟩,hck,h2⟩
    ·rcases ih h2 c fun c' hc' => ⟨hck c' hc',(hc c' hc').2⟩ with ⟨c2,q1,q2,q3,q4⟩ | q
     ·exact .inl ⟨c2,by omega,q2,q3,q4⟩
     ·exact .inr q
  ·have hsn : snapsOf H0 E (k + 1) = snapsOf H0 E k := by
    simp only [snapsOf]
    split
    ·rename_i g o v hE; exact absurd ⟨g,o,v,hE⟩ hch
    ·rfl
   rw [hsn] at h
   rcases ih h c fun c' hc' => by
    obtain ⟨q1,q2⟩ := hc c' hc'
    refine ⟨?_,q2⟩
    rcases Nat.lt_succ_iff_lt_or_eq.1 q1 with h | rfl
    ·exact h
    ·exact absurd q2 hch with ⟨c2,q1,q2,q3,q4⟩ | q
   ·exact .inl ⟨c2,by omega,q2,q3,q4⟩
   ·exact .inr q
theorem watch_spec {j : Nat} {h : H} : ∀ {l : List (Nat × Nat × Nat × List LV)},watchOK (Region.before ops) j h l = true → ∀ a b off vs,(a,b,off,vs) ∈ l → Pre (Region.before ops) a j ∨ sameCells (h.read b off vs.length) vs = true := by
 intro l
 induction l with
 | nil => intro _ a b off vs hm; cases hm
 | cons x l ih =>
  intro hw a b off vs hm
  obtain ⟨a',b',off',vs'⟩ := x
  simp only [watchOK,Bool.and_eq_true,Bool.or_eq_true] at hw
  rcases List.mem_cons.1 hm with e | hm
  ·cases e; exact hw.1
  ·exact ih hw.2 a b off vs hm
theorem dead_spec : ∀ i,(∀ c v o,deadOf E i = some (c,v,o) → c < i ∧ ∃ g,E c = .dead g o v) ∧ (deadOf E i = none → ∀ c,c < i → ∀ g o v,E c ≠ .dead g o v) := by
 intro i
 induction i with
 | zero => exact ⟨fun c v o h => by simp [deadOf] at h,fun _ c h => by omega⟩
 | succ i ih =>
  obtain ⟨h1,h2⟩ := ih
  simp only [deadOf]
  split
  ·rename_i g o v hE
   refine ⟨fun c v' o' h => ?_,fun h => by cases h⟩
   cases h; exact ⟨Nat.lt_succ_self _,g,hE⟩
  ·rename_i hne
   refine ⟨fun c v o h => ⟨by have := (h1 c v o h).1; omega,(h1 c v o h).2⟩,fun h c hc g o v hE => ?_⟩
   rcases Nat.lt_succ_iff_lt_or_eq.1 hc with hc | rfl
   ·exact h2 h c hc g o v hE
   ·exact hne g o v hE
end
end Go.Ev
namespace Go.Ev
open Go
section
variable {P : Program} {σ : Sg} {h : H} {w : World}
theorem valEq_eq {a b : Value} (h : valEq a b = true) : a = b := by
 unfold valEq at h
 split at h
 ·simp at h; rw [h]
 ·simp only [Bool.and_eq_true] at h
  obtain ⟨h1,h2⟩ := h
  have e1 := eq_of_beq h1
  have e2 := eq_of_beq h2
  rw [e1,e2]
 ·rename_i a b
  have e := eq_of_beq h
  congr 1
  cases a; cases b
  simp only at e
  congr 1
  exact Array.ext' e
 ·simp only [Bool.and_eq_true,beq_dec,decide_eq_true_eq] at h; rw [h.1,h.2]
 ·rfl
 ·rfl
 ·rfl
 ·rfl
 ·simp only [Bool.and_eq_true,beq_dec,decide_eq_true_eq,Array.isEmpty_iff] at h
  obtain ⟨h1,h2,h3,h4,h5⟩ := h
  rw [h1,h2,h3,h4,h5]
 ·cases h
mutual
theorem beq_re : ∀ {a b : LV},LV.beq a b = true → a.re σ = b.re σ
 | .prim a,b,h => by
  cases b <;> simp only [LV.beq] at h <;> try cases h
  rw [valEq_eq h]
 | .ptr a c,b,h => by
  cases b <;> simp only [LV.beq] at h <;> try cases h
  simp only [Bool.and_eq_true,beq_dec,decide_eq_true_eq] at h
  rw [h.1,h.2]
 | .slice a c d e f,b,h => by
  cases b <;> simp only [LV.beq] at h <;> try cases h
  simp only [Bool.and_eq_true,beq_dec,decide_eq_true_eq] at h
  obtain ⟨h1,h2,h3,h4,h5⟩ := h
  have h5 := eq_of_beq h5
  rw [h1,h2,h3,h4,h5]
 | .map a,b,h => by
  cases b <;> simp only [LV.beq] at h <;> try cases h
  simp only [beq_dec,decide_eq_true_eq] at h
  rw [h]
 | .func f a c,b,h => by
  cases b with
  | func g d e =>
   cases f <;> cases g <;> simp only [LV.beq] at h <;> try cases h
   simp only [Bool.and_eq_true,beq_dec,decide_eq_true_eq] at h
   obtain ⟨h1,h2,h3⟩ := h
   simp only [LV.re]
   rw [h1,beqL_re h2,beqL_re h3]
  | _ => cases f <;> simp [LV.beq] at h
 | .yield a,b,h => by
  cases b <;> simp only [LV.beq] at h <;> try cases h
  simp only [beq_dec,decide_eq_true_eq] at h
  rw [h]
 | .iface t v,b,h => by
  cases b <;> simp only [LV.beq] at h <;> try cases h
  simp only [Bool.and_eq_true,beq_dec,decide_eq_true_eq] at h
  simp only [LV.re]
  rw [h.1,beq_re h.2]
 | .agg a,b,h => by
  cases b <;> simp only [LV.beq] at h <;> try cases h
  simp only [LV.re]
  rw [beqL_re h]
 | .tuple a,b,h => by
  cases b <;> simp only [LV.beq] at h <;> try cases h
  simp only [LV.re]
  rw [beqL_re h]
theorem beqL_re : ∀ {a b : List LV},LV.beqL a b = true → LV.reL σ a = LV.reL σ b
 | [],b,h => by
  cases b <;> simp only [LV.beqL] at h <;> try cases h
  rfl
 | x :: xs,b,h => by
  cases b with
  | nil => simp [LV.beqL] at h
  | cons y ys =>
   simp only [LV.beqL,Bool.and_eq_true] at h
   simp only [LV.reL]
   rw [beq_re h.1,beqL_re h.2]
end
theorem beqL_len : ∀ {a b : List LV},LV.beqL a b = true → a.length = b.length := by
 intro a
 induction a with
 | nil => intro b h; cases b <;> simp [LV.beqL] at h; rfl
 | cons x xs ih =>
  intro b h
  cases b with
  | nil => simp [LV.beqL] at h
  | cons y ys => simp only [LV.beqL,Bool.and_eq_true] at h; simp [ih h.2]
theorem read_len {g : H} {b off m : Nat} {ws : List LV} (hr : g.read b off m = some ws) : ws.length = m := by
 unfold H.read at hr
 split at hr
 ·exact (readL_spec hr).2.2
 ·cases hr
theorem readL_len1 {g : H} {b off : Nat} {ws : List LV} (hr : g.read b off 1 = some ws) : ws.length = 1 := read_len hr
structure View (P : Program) (σ : Sg) (ops : Array Oper) (o : Oper) (T : Tr LV) (F : Frame) : Prop where
 want : wantedG ops T o.guard = Region.wanted o (yielded ops F.tmps)
 pure : PN P σ (execOp F.eval o) (lpure P T o.op o.type)
 alloc : ∀ x mk,lalloc P T o.op = some (x,mk) → AllocOK P σ (execOp F.eval o) x mk
 heap : ∀ (g : H) (w : World),Sim P σ g w → OutOK P σ g w ((execOp F.eval o).run P w) (lheap P T g o.op)
 at_ : ∀ x ∈ o.op.operands,(ev T x).re σ = some (F.eval x)
theorem view_of {ops : Array Oper} {o : Oper} {T : Tr LV} {F : Frame} (hx : ∀ x,x ∈ o.looksAt ops → (getT T x).re σ = some (F.tmps.getD x undef)) : View P σ ops o T F := by
 let p : Nat → Bool := fun x => decide (x ∈ o.looksAt ops)
 let T' := T.keep p
 let tm' : Array Value := (Array.range F.tmps.size).map fun x => if p x then F.tmps.getD x undef else undef
 have hT : ∀ x,getT T' x = if p x then getT T x else undefL := fun x => by
  show (match (T.keep p).get x with | some v => v | none => undefL) = _
  rw [Tr.get_keep]
  split
  ·rename_i v hv; by_cases hp : p x = true
   ·rw [if_pos hp] at hv; simp only [hp,if_true,getT,hv]
   ·rw [if_neg hp] at hv; cases hv
  ·rename_i hv; by_cases hp : p x = true
   ·rw [if_pos hp] at hv; simp only [hp,if_true,getT,hv]
   ·simp [hp]
 have htm : ∀ x,tm'.getD x undef = if p x then F.tmps.getD x undef else undef := fun x => by
  by_cases hlt : x < F.tmps.size
  ·simp [tm',hlt]
  ·simp [tm',hlt]
 have hall : ∀ x,(getT T' x).re σ = some (tm'.getD x undef) := fun x => by
  rw [hT,htm]
  by_cases hp : p x = true
  ·simp only [hp,if_true]; exact hx x (by simpa [p] using hp)
  ·simp [hp,undefL,LV.re]
 let F' : Frame := { F with tmps := tm' }
 have hev : ∀ x,(ev T' x).re σ = some (F'.eval x) := fun x => by
  cases x with
  | tmp i => exact hall i
  | const v => rfl
  | global g => rfl
  | func f => rfl
 have hop : ∀ x ∈ o.op.operands,ev T x = ev T' x ∧ F.eval x = F'.eval x := fun x hm => by
  cases x with
  | tmp i =>
   have hp : p i = true := by
    simp only [p,decide_eq_true_eq]
    exact List.mem_append_left _ (List.mem_filterMap.2 ⟨.tmp i,by simpa using hm,rfl⟩)
   exact ⟨by show getT T i = getT T' i; rw [hT,hp]; rfl,by show F.tmps.getD i undef = tm'.getD i undef; rw [htm,hp]; rfl⟩
  | const v => exact ⟨rfl,rfl⟩
  | global g => exact ⟨rfl,rfl⟩
  | func f => exact ⟨rfl,rfl⟩
 have hguard : ∀ j b,o.guard = some (j,b) → ∀ d,(ops[j]?).bind (·.dst) = some d → p d = true := fun j b hg d hd => by
  simp only [p,decide_eq_true_eq,Oper.looksAt,hg,hd]
  exact List.mem_append_right _ (by simp)
 have hw1 : wantedG ops T o.guard = wantedG ops T' o.guard := by
  unfold wantedG
  cases hg : o.guard with
  | none => rfl
  | some x =>
   obtain ⟨j,want⟩ := x
   dsimp only
   congr 1
   unfold yieldedL
   cases hj : ops[j]? with
   | none => rfl
   | some o2 =>
    dsimp only
    cases hd : o2.dst with
    | none => rfl
    | some d =>
     dsimp only
     have := hguard j want hg d (by simp [hj,hd])
     show boolOf (T.get d) = boolOf ((T.keep p).get d)
     rw [Tr.get_keep,this]; rfl
 have hw2 : Region.wanted o (yielded ops F.tmps) = Region.wanted o (yielded ops tm') := by
  unfold Region.wanted
  cases hg : o.guard with
  | none => rfl
  | some x =>
   obtain ⟨j,want⟩ := x
   dsimp only
   congr 1
   unfold yielded
   cases hj : ops[j]? with
   | none => rfl
   | some o2 =>
    cases hd : o2.dst with
    | none => simp [hd]
    | some d =>
     have hp := hguard j want hg d (by simp [hj,hd])
     have h1 := htm d
     rw [hp] at h1
     simp only [if_true] at h1
     simp only [Option.bind_some,hd]
     have hs : tm'.size = F.tmps.size := by simp [tm']
     by_cases hlt : d < F.tmps.size
     ·have hlt' : d < tm'.size := hs ▸ hlt
      simp only [Array.getD_eq_getD_getElem?,Array.getElem?_eq_getElem hlt,Array.getElem?_eq_getElem hlt',Option.getD_some] at h1 ⊢
      rw [h1]
     ·rw [Array.getElem?_eq_none (Nat.le_of_not_lt hlt),Array.getElem?_eq_none (hs ▸ Nat.le_of_not_lt hlt)]
 have hex : (∀ cs b,o.op ≠ .select cs b) → execOp F.eval o = execOp F'.eval o := fun hs => execOp_congr o hs fun x hm => (hop x hm).2
 have c1 : lpure P T o.op o.type = lpure P T' o.op o.type := lpure_congr fun x hm => (hop x hm).1
 have c2 : lalloc P T o.op = lalloc P T' o.op := lalloc_congr fun x hm => (hop x hm).1
 have c3 : ∀ g,lheap P T g o.op = lheap P T' g o.op := fun g => lheap_congr fun x hm => (hop x hm).1
 refine ⟨by rw [hw1,hw2]; exact wanted_eq hall o,?_,?_,?_,fun x hm => by rw [(hop x hm).1,(hop x hm).2]; exact hev x⟩
 ·rw [c1]
  by_cases hs : ∃ cs b,o.op = .select cs b
  ·obtain ⟨cs,b,e⟩ := hs; rw [e]; trivial
  ·rw [hex fun cs b e => hs ⟨cs,b,e⟩]; exact lpure_ok hev o
 ·intro x mk hl
  rw [c2] at hl
  by_cases hs : ∃ cs b,o.op = .select cs b
  ·obtain ⟨cs,b,e⟩ := hs; rw [e] at hl; cases hl
  ·rw [hex fun cs b e => hs ⟨cs,b,e⟩]; exact lalloc_ok hev o hl
 ·intro g w s
  rw [c3]
  by_cases hs : ∃ cs b,o.op = .select cs b
  ·obtain ⟨cs,b,e⟩ := hs; rw [e]; trivial
  ·rw [hex fun cs b e => hs ⟨cs,b,e⟩]; exact lheap_ok hev s o
theorem lalloc_plain {T : Tr LV} {op : Op} {x : LObj} {mk : Nat → LV} (h : lalloc P T op = some (x,mk)) : x.kin = [] ∧ x.old = false := by
 unfold lalloc at h
 split at h
 ·unfold aAlloc at h
  split at h
  ·simp only [cond_eq_ite] at h
   split at h <;> cases h; exact ⟨rfl,rfl⟩
  ·cases h
 ·simp only [fL_eq] at h
  unfold aBox at h
  split at h
  ·simp only [cond_eq_ite] at h
   split at h <;> cases h; exact ⟨rfl,rfl⟩
  ·cases h
 ·unfold aBuild at h
  split at h
  ·split at h
   ·simp only [cond_eq_ite] at h
    split at h
    ·unfold aBuildCells at h
     split at h <;> cases h; exact ⟨rfl,rfl⟩
    ·cases h
   ·cases h
  ·cases h
 ·unfold aMake at h
  split at h
  ·split at h
   ·simp only [cond_eq_ite,fN_eq] at h
    split at h <;> cases h; exact ⟨rfl,rfl⟩
   ·cases h
  ·cases h
 ·unfold aMap at h
  split at h
  ·cases h; exact ⟨rfl,rfl⟩
  ·split at h <;> cases h; exact ⟨rfl,rfl⟩
 ·cases h
end
end Go.Ev
namespace Go.Ev
open Go
structure SimR (P : Program) (σ : Sg) (L : Nat → LObj → Prop) (next : Nat) (w : World) : Prop where
 obj : ∀ b o,L b o → ∃ p x,σ b = some p ∧ w.heap[p.1]? = some x ∧ ObjR P σ p.2 o x
 apart : ∀ b b' o o' p p',L b o → L b' o' → σ b = some p → σ b' = some p' → b ≠ b' → p.1 = p'.1 → o.old = false → b' ∈ o.kin ∧ o'.old = true ∧ o'.len ≤ o.len
 next : ∀ b p,σ b = some p → b < next ∧ p.1 < w.heap.size
theorem SimR.sub {P : Program} {σ : Sg} {L : Nat → LObj → Prop} {next : Nat} {w : World} (s : SimR P σ L next w) {h : H} (hn : next ≤ h.next) (hg : ∀ b o,h.m.get b = some o → L b o) : Sim P σ h w :=
 ⟨fun b o hb => s.obj b o (hg b o hb),fun b b' o o' p p' hb hb' => s.apart b b' o o' p p' (hg b o hb) (hg b' o' hb'),fun b p hp => ⟨Nat.lt_of_lt_of_le (s.next b p hp).1 hn,(s.next b p hp).2⟩⟩
def Live (pr : Array Nat) (H0 : H) (E : Nat → En) (base : Nat) (pre : List Nat) (c : Option Nat) (b : Nat) (o : LObj) : Prop :=
 (heapOf H0 E c).m.get b = some o ∨ ∃ a v,a ∈ pre ∧ E a = .alloc o v ∧ b = base + a ∧ ∀ c',c = some c' → ¬ Pre pr a c'
def TmpsR (ops : Array Oper) (S : Nat → RS) (pre : List Nat) (σ : Sg) (tmps : Array Value) : Prop :=
 ∀ m,m ≤ ops.size → ∀ x,(∀ j o,ops[j]? = some o → o.dst = some x → (j < m ↔ j ∈ pre)) → (getT (S m).t x).re σ = some (tmps.getD x undef)
structure Inv (P : Program) (ops : Array Oper) (n base : Nat) (H0 : H) (S : Nat → RS) (E : Nat → En) (σ0 : Sg) (h0 : H) (w0 : World) (pre : List Nat) (c : Option Nat) (σ : Sg) (w : World) (tmps : Array Value) : Prop where
 last1 : ∀ c',c = some c' → c' ∈ pre ∧ isCh E c'
 last2 : ∀ a,a ∈ pre → isCh E a → ∃ c',c = some c' ∧ a ≤ c'
 nodead : ∀ a,a ∈ pre → ∀ g o v,E a ≠ .dead g o v
 ext : Ext σ0 σ
 keep : Keep (Dom σ0 h0) w0 w
 sim : SimR P σ (Live (Region.before ops) H0 E base pre c) (heapOf H0 E c).next w
 dom : ∀ b o p,Live (Region.before ops) H0 E base pre c b o → σ b = some p → Dom σ0 h0 p.1 ∨ w0.heap.size ≤ p.1
 fresh : ∀ b,b < base → σ0 b = none → σ b = none
 un : ∀ a,a < ops.size → ¬ a ∈ pre → σ (base + a) = none
 next : base + ops.size ≤ (heapOf H0 E c).next
 pend : ∀ a x v,a < ops.size → E a = .alloc x v → (∀ c',c = some c' → ¬ Pre (Region.before ops) a c') → (heapOf H0 E c).m.get (base + a) = none
 size : tmps.size = n
 tmps : TmpsR ops S pre σ tmps
structure Pos (ops : Array Oper) (pre : List Nat) (i : Nat) : Prop where
 closed : ∀ k,k ∈ pre → ∀ j,Pre (Region.before ops) j k → j ∈ pre
 preds : ∀ j,Pre (Region.before ops) j i → j ∈ pre
 notin : ¬ i ∈ pre
 lt : i < ops.size
 below : ∀ k,k ∈ pre → k < ops.size
def TempsOK (ops : Array Oper) : Prop := ∀ i oi j oj x,ops[i]? = some oi → ops[j]? = some oj → oi.dst = some x → (oj.dst = some x ∨ x ∈ oj.looksAt ops) → i ≠ j → Pre (Region.before ops) (min i j) (max i j)
section
variable {P : Program} {ops : Array Oper} {n base : Nat} {call : FuncId → List LV → H → Res} {t0 : Tr LV} {H0 : H} {S : Nat → RS} {E : Nat → En} {σ0 σ : Sg} {h0 : H} {w0 w : World} {pre : List Nat} {c : Option Nat} {tmps : Array Value} {i : Nat} {o : Oper}
theorem reads_at (tb : TempsOK ops) (ps : Pos ops pre i) (ho : ops[i]? = some o) {x : Tmp} (hx : x ∈ o.looksAt ops) : ∀ j oj,ops[j]? = some oj → oj.dst = some x → (j < i ↔ j ∈ pre) := by
 intro j oj hj hd
 by_cases e : j = i
 ·subst e; exact ⟨fun h => absurd h (Nat.lt_irrefl _),fun h => absurd h ps.notin⟩
 ·have hp := tb j oj i o x hj ho hd (.inr hx) e
  rcases Nat.lt_or_gt_of_ne e with hlt | hgt
  ·rw [Nat.min_eq_left (by omega),Nat.max_eq_right (by omega)] at hp
   exact ⟨fun _ => ps.preds j hp,fun _ => hlt⟩
  ·rw [Nat.min_eq_right (by omega),Nat.max_eq_left (by omega)] at hp
   exact ⟨fun h => by omega,fun h => absurd (ps.closed j h i hp) ps.notin⟩
theorem tmps_put (R : Ran P ops n base call t0 H0 S E) (tb : TempsOK ops) (ps : Pos ops pre i) (ho : ops[i]? = some o) (ht : TmpsR ops S pre σ tmps) (hs : tmps.size = n) {v : LV} {v' : Value} (hout : (E i).out = some v) (hv : v.re σ = some v')
  (hd : ∀ d,o.dst = some d → d < n) : TmpsR ops S (pre ++ [i]) σ (putA tmps o.dst v') := by
 intro m hm x hx
 by_cases hdx : o.dst = some x
 ·have him : i < m := (hx i o ho hdx).2 (by simp)
  have h1 := temps_step R ho x
  rw [hout] at h1
  simp only [hdx,if_true] at h1
  have h2 := temps_same R (x := x) (m - (i + 1)) (i + 1) (by omega) fun j oj hj1 hj2 hoj hdj => by
   have hjm : j ∈ pre := by
    have := (hx j oj hoj hdj).1 (by omega)
    rcases List.mem_append.1 this with h | h
    ·exact h
    ·simp at h; omega
   have hp := tb i o j oj x ho hoj hdx (.inl hdj) (by omega)
   rw [Nat.min_eq_left (by omega),Nat.max_eq_right (by omega)] at hp
   exact ps.notin (ps.closed j hjm i hp)
  rw [show i + 1 + (m - (i + 1)) = m by omega] at h2
  rw [h2,h1,hv,hdx]
  simp [putA,hs,hd x hdx]
 ·have := ht m hm x fun j oj hj hdj => by
   rw [hx j oj hj hdj,List.mem_append]
   constructor
   ·rintro (h | h)
    ·exact h
    ·simp at h; subst h
     rw [ho] at hj; cases hj
     exact absurd hdj hdx
   ·exact .inl
  rw [this]
  cases hod : o.dst with
  | none => rfl
  | some d =>
   have : d ≠ x := fun e => hdx (by rw [hod,e])
   simp [putA,Array.getElem?_setIfInBounds_ne this]
theorem Inv.quiet (R : Ran P ops n base call t0 H0 S E) (tb : TempsOK ops) (I : Inv P ops n base H0 S E σ0 h0 w0 pre c σ w tmps) (ps : Pos ops pre i) (ho : ops[i]? = some o) {v : LV} {v' : Value} (hout : (E i).out = some v) (hv : v.re σ = some v')
  (hd : ∀ d,o.dst = some d → d < n) (hna : ∀ x u,E i ≠ .alloc x u) (hnc : ¬ isCh E i) : Inv P ops n base H0 S E σ0 h0 w0 (pre ++ [i]) c σ w (putA tmps o.dst v') := by
 have hl : ∀ b o,Live (Region.before ops) H0 E base (pre ++ [i]) c b o → Live (Region.before ops) H0 E base pre c b o := by
  rintro b o (h | ⟨a,u,h1,h2,h3,h4⟩)
  ·exact .inl h
  ·rcases List.mem_append.1 h1 with h1 | h1
   ·exact .inr ⟨a,u,h1,h2,h3,h4⟩
   ·simp at h1; subst h1; exact absurd h2 (hna _ _)
 refine ⟨fun c' hc => ⟨List.mem_append_left _ (I.last1 c' hc).1,(I.last1 c' hc).2⟩,fun a ha hch => ?_,fun a ha g ou u hE => ?_,I.ext,I.keep,?_,fun b o p hb hp => I.dom b o p (hl b o hb) hp,I.fresh,fun a ha hn => I.un a ha fun h => hn (List.mem_append_left _ h),I.next,I.pend,?_,tmps_put R tb ps ho I.tmps I.size hout hv hd⟩
 ·rcases List.mem_append.1 ha with ha | ha
  ·exact I.last2 a ha hch
  ·simp at ha; subst ha; exact absurd hch hnc
 ·rcases List.mem_append.1 ha with ha | ha
  ·exact I.nodead a ha g ou u hE
  ·simp at ha; subst ha; rw [hE] at hout; cases hout
 ·exact ⟨fun b o hb => I.sim.obj b o (hl b o hb),fun b b' o o' p p' hb hb' => I.sim.apart b b' o o' p p' (hl b o hb) (hl b' o' hb'),I.sim.next⟩
 ·cases hod : o.dst <;> simp [putA,I.size]
theorem Inv.alloc (R : Ran P ops n base call t0 H0 S E) (tb : TempsOK ops) (I : Inv P ops n base H0 S E σ0 h0 w0 pre c σ w tmps) (ps : Pos ops pre i) (ho : ops[i]? = some o) {x : LObj} {v : LV} {v' : Value} (hE : E i = .alloc x v)
  (hd : ∀ d,o.dst = some d → d < n) {cap : Nat} {obj : Obj} (hobj : ObjR P σ cap x obj) (hpl : x.old = false) (hv : v.re (σ.put (base + i) (w.heap.size,cap)) = some v') :
  Inv P ops n base H0 S E σ0 h0 w0 (pre ++ [i]) c (σ.put (base + i) (w.heap.size,cap)) (w.alloc obj) (putA tmps o.dst v') := by
 have hf : σ (base + i) = none := I.un i ps.lt ps.notin
 have he : Ext σ (σ.put (base + i) (w.heap.size,cap)) := Sg.put_ext hf
 have hlive : ∀ b o,Live (Region.before ops) H0 E base (pre ++ [i]) c b o → (b = base + i ∧ o = x) ∨ (b ≠ base + i ∧ Live (Region.before ops) H0 E base pre c b o) := by
  rintro b o (h | ⟨a,u,h1,h2,h3,h4⟩)
  ·by_cases e : b = base + i
   ·subst e
    obtain ⟨p,_,hp,_⟩ := I.sim.obj _ o (.inl h)
    rw [hf] at hp; cases hp
   ·exact .inr ⟨e,.inl h⟩
  ·rcases List.mem_append.1 h1 with h5 | h5
   ·refine .inr ⟨fun e => ?_,.inr ⟨a,u,h5,h2,h3,h4⟩⟩
    have : a = i := by omega
    exact ps.notin (this ▸ h5)
   ·simp at h5; subst h5; rw [hE] at h2; cases h2; exact .inl ⟨h3,rfl⟩
 have hnext : base + i < (heapOf H0 E c).next := Nat.lt_of_lt_of_le (Nat.add_lt_add_left ps.lt base) I.next
 have back : ∀ b p,b ≠ base + i → σ.put (base + i) (w.heap.size,cap) b = some p → σ b = some p := fun b p hne hp => by
  unfold Sg.put at hp; rw [if_neg hne] at hp; exact hp
 refine ⟨fun c' hc => ⟨List.mem_append_left _ (I.last1 c' hc).1,(I.last1 c' hc).2⟩,fun a ha hch => ?_,fun a ha g ou u hE2 => ?_,I.ext.trans he,?_,⟨?_,?_,?_⟩,fun b o p hb hp => ?_,fun b hb h0' => ?_,fun a ha hn => ?_,I.next,I.pend,?_,
  tmps_put R tb ps ho (fun m hm y hy => LV.re_ext he (I.tmps m hm y hy)) I.size (by rw [hE]; rfl) hv hd⟩
 ·rcases List.mem_append.1 ha with ha | ha
  ·exact I.last2 a ha hch
  ·simp at ha; subst ha; obtain ⟨g,ou,u,h⟩ := hch; rw [hE] at h; cases h
 ·rcases List.mem_append.1 ha with ha | ha
  ·exact I.nodead a ha g ou u hE2
  ·simp at ha; subst ha; rw [hE] at hE2; cases hE2
 ·exact I.keep.trans (B := fun _ => False) ⟨rfl,rfl,rfl,by simp,fun β hβ _ => Go.RowKit.Below.heap_alloc w obj β hβ⟩ fun β h => h.elim
 ·intro b o hb
  rcases hlive b o hb with ⟨rfl,rfl⟩ | ⟨hne,hb⟩
  ·exact ⟨_,obj,Sg.put_same,by simp only [World.alloc,Array.getElem?_push_size],hobj.ext he⟩
  ·obtain ⟨p,y,h1,h2,h3⟩ := I.sim.obj b o hb
   exact ⟨p,y,he _ _ h1,by rw [Go.RowKit.Below.heap_alloc w obj _ (I.sim.next _ _ h1).2]; exact h2,h3.ext he⟩
 ·intro b b' o1 o2 p p' hb hb' hp hp' hne heq hold
  rcases hlive b o1 hb with ⟨rfl,rfl⟩ | ⟨hn1,hb⟩
  ·rw [Sg.put_same] at hp; cases hp
   rcases hlive b' o2 hb' with ⟨rfl,_⟩ | ⟨hn2,hb'⟩
   ·exact absurd rfl hne
   ·have := (I.sim.next _ _ (back b' p' hn2 hp')).2
    rw [← heq] at this; exact absurd this (Nat.lt_irrefl _)
  ·have hp1 := back b p hn1 hp
   rcases hlive b' o2 hb' with ⟨rfl,_⟩ | ⟨hn2,hb'⟩
   ·rw [Sg.put_same] at hp'; cases hp'
    have := (I.sim.next _ _ hp1).2
    rw [heq] at this; exact absurd this (Nat.lt_irrefl _)
   ·exact I.sim.apart b b' o1 o2 p p' hb hb' hp1 (back b' p' hn2 hp') hne heq hold
 ·intro b p hp
  by_cases e : b = base + i
  ·subst e; rw [Sg.put_same] at hp; cases hp; exact ⟨hnext,by simp⟩
  ·obtain ⟨h1,h2⟩ := I.sim.next b p (back b p e hp); exact ⟨h1,by simp; omega⟩
 ·rcases hlive b o hb with ⟨rfl,rfl⟩ | ⟨hne,hb⟩
  ·rw [Sg.put_same] at hp; cases hp; exact .inr I.keep.size
  ·exact I.dom b o p hb (back b p hne hp)
 ·unfold Sg.put; rw [if_neg (by omega)]; exact I.fresh b hb h0'
 ·have hai : a ≠ i := fun e => hn (by rw [e]; simp)
  unfold Sg.put; rw [if_neg (by omega)]; exact I.un a ha fun h => hn (List.mem_append_left _ h)
 ·cases hod : o.dst <;> simp [putA,I.size]
theorem given_live (R : Ran P ops n base call t0 H0 S E) (I : Inv P ops n base H0 S E σ0 h0 w0 pre c σ w tmps) (ps : Pos ops pre i) {g : H} (hlast : lastChain (snapsOf H0 E i) = c) (hg : PromR (Region.before ops) (lastChain (S i).snaps) (some i) (S i).allocs (S i).h g) :
  g.next = (heapOf H0 E c).next ∧ ∀ b o,g.m.get b = some o → (heapOf H0 E c).m.get b = some o ∨ ∃ a v,a ∈ pre ∧ E a = .alloc o v ∧ b = base + a ∧ Pre (Region.before ops) a i ∧ (∀ c',c = some c' → ¬ Pre (Region.before ops) a c') := by
 have hi := Nat.le_of_lt ps.lt
 rw [snaps_eq R i hi,heap_eq R i hi,hlast] at hg
 refine ⟨hg.1,fun b o hb => ?_⟩
 rcases hg.2 b o hb with h | ⟨a,hm,hp⟩
 ·exact .inl h
 ·obtain ⟨h1,h2,v,h3⟩ := alloc_mem R i hi a b o hm
  unfold promB at hp
  simp only [Bool.and_eq_true,Bool.not_eq_true'] at hp
  refine .inr ⟨a,v,ps.preds a hp.1,h3,h2,hp.1,fun c' hc hpre => ?_⟩
  subst hc
  have := hp.2
  simp only at this
  rw [hpre] at this; cases this
theorem Inv.chain (R : Ran P ops n base call t0 H0 S E) (tb : TempsOK ops) (I : Inv P ops n base H0 S E σ0 h0 w0 pre c σ w tmps) (ps : Pos ops pre i) (ho : ops[i]? = some o) {g out : H} {v : LV} (hE : E i = .chain g out v) (hlast : lastChain (snapsOf H0 E i) = c)
  (hd : ∀ d,o.dst = some d → d < n) (hg : PromR (Region.before ops) (lastChain (S i).snaps) (some i) (S i).allocs (S i).h g) (hbase : h0.next = base)
  (hplain : ∀ a x u,E a = .alloc x u → a < ops.size → x.kin = [] ∧ x.old = false) {σ' : Sg} {w' : World} {v' : Value} (G : Goes P σ g w σ' out w') (hv : v.re σ' = some v') :
  Inv P ops n base H0 S E σ0 h0 w0 (pre ++ [i]) (some i) σ' w' (putA tmps o.dst v') := by
 obtain ⟨gn,gl⟩ := given_live R I ps hlast hg
 have hout : heapOf H0 E (some i) = out := by simp [heapOf,hE]
 have gLive : ∀ b o,g.m.get b = some o → Live (Region.before ops) H0 E base pre c b o := fun b o hb => (gl b o hb).imp id fun ⟨a,u,h1,h2,h3,_,h5⟩ => ⟨a,u,h1,h2,h3,h5⟩
 have waits : ∀ a x u,E a = .alloc x u → a < ops.size → ¬ Pre (Region.before ops) a i → g.m.get (base + a) = none := by
  intro a x u hEa halt hnp
  cases hx : g.m.get (base + a) with
  | none => rfl
  | some y =>
   rcases gl _ _ hx with h | ⟨a',u',h1,h2,h3,h4,h5⟩
   ·have hnc : ∀ c',c = some c' → ¬ Pre (Region.before ops) a c' := fun c' hc hp => hnp (pre_trans R.edges hp (by
     have := (last_spec (H0 := H0) (E := E) i).1 c' (by rw [hlast,hc])
     exact chain_pre R i ps.lt (.inl ⟨g,out,v,hE⟩) c' this.1 this.2))
    rw [I.pend a x u halt hEa hnc] at h; cases h
   ·have : a' = a := by omega
    subst this; exact absurd h4 hnp
 have domG : ∀ β,Dom σ g β → Dom σ0 h0 β ∨ w0.heap.size ≤ β := by
  rintro β ⟨b,o,p,hb,hp,rfl⟩
  exact I.dom b o p (gLive b o hb) hp
 have outside : ∀ a x u p,a ∈ pre → E a = .alloc x u → ¬ Pre (Region.before ops) a i → σ (base + a) = some p → ¬ Dom σ g p.1 := by
  rintro a x u p ha hEa hnp hp ⟨b2,o2,p2,hb2,hp2,heq⟩
  have halt := ps.below a ha
  have hne : base + a ≠ b2 := fun e => by rw [← e,waits a x u hEa halt hnp] at hb2; cases hb2
  obtain ⟨hk,hold⟩ := hplain a x u hEa halt
  have hnc : ∀ c',c = some c' → ¬ Pre (Region.before ops) a c' := fun c' hc hpp => hnp (pre_trans R.edges hpp (by
   have := (last_spec (H0 := H0) (E := E) i).1 c' (by rw [hlast,hc])
   exact chain_pre R i ps.lt (.inl ⟨g,out,v,hE⟩) c' this.1 this.2))
  have := (I.sim.apart (base + a) b2 x o2 p p2 (.inr ⟨a,u,ha,hEa,rfl,hnc⟩) (gLive b2 o2 hb2) hp hp2 hne heq.symm hold).1
  rw [hk] at this; cases this
 have hpend : ∀ a x u,a < ops.size → E a = .alloc x u → ¬ Pre (Region.before ops) a i → out.m.get (base + a) = none := by
  intro a x u halt hEa hnp
  cases hx : out.m.get (base + a) with
  | none => rfl
  | some y =>
   obtain ⟨p,z,h1,h2,h3⟩ := G.sim.obj _ _ hx
   by_cases ha : a ∈ pre
   ·have hnc : ∀ c',c = some c' → ¬ Pre (Region.before ops) a c' := fun c' hc hpp => hnp (pre_trans R.edges hpp (by
     have := (last_spec (H0 := H0) (E := E) i).1 c' (by rw [hlast,hc])
     exact chain_pre R i ps.lt (.inl ⟨g,out,v,hE⟩) c' this.1 this.2))
    obtain ⟨q,y',hq1,hq2,hq3⟩ := I.sim.obj (base + a) x (.inr ⟨a,u,ha,hEa,rfl,hnc⟩)
    have := G.ext _ _ hq1
    rw [h1] at this; cases this
    rcases G.dom p.1 ⟨_,_,p,hx,h1,rfl⟩ with h | h
    ·exact absurd h (outside a x u p ha hEa hnp hq1)
    ·exact absurd (I.sim.next _ _ hq1).2 (by omega)
   ·have hn := I.un a halt ha
    have hlt : base + a < g.next := by rw [gn]; exact Nat.lt_of_lt_of_le (Nat.add_lt_add_left halt base) I.next
    have := G.fresh _ hlt hn
    rw [h1] at this; cases this
 have hlive : ∀ b o,Live (Region.before ops) H0 E base (pre ++ [i]) (some i) b o → out.m.get b = some o ∨ ∃ a u,a ∈ pre ∧ E a = .alloc o u ∧ b = base + a ∧ ¬ Pre (Region.before ops) a i := by
  rintro b o (h | ⟨a,u,h1,h2,h3,h4⟩)
  ·rw [hout] at h; exact .inl h
  ·rcases List.mem_append.1 h1 with h1 | h1
   ·exact .inr ⟨a,u,h1,h2,h3,h4 i rfl⟩
   ·simp at h1; subst h1; rw [hE] at h2; cases h2
 have oldLive : ∀ a x u,a ∈ pre → E a = .alloc x u → ¬ Pre (Region.before ops) a i → Live (Region.before ops) H0 E base pre c (base + a) x := fun a x u ha hEa hnp =>
  .inr ⟨a,u,ha,hEa,rfl,fun c' hc hpp => hnp (pre_trans R.edges hpp (by
   have := (last_spec (H0 := H0) (E := E) i).1 c' (by rw [hlast,hc])
   exact chain_pre R i ps.lt (.inl ⟨g,out,v,hE⟩) c' this.1 this.2))⟩
 have hnext : (heapOf H0 E c).next ≤ out.next := by rw [← gn]; exact G.next
 refine ⟨fun c' hc => by cases hc; exact ⟨by simp,g,out,v,hE⟩,fun a ha hch => ?_,fun a ha g' ou u hE2 => ?_,I.ext.trans G.ext,I.keep.trans G.keep domG,⟨?_,?_,?_⟩,fun b o p hb hp => ?_,fun b hb h0' => ?_,fun a ha hn => ?_,?_,?_,?_,
  tmps_put R tb ps ho (fun m hm y hy => LV.re_ext G.ext (I.tmps m hm y hy)) I.size (by rw [hE]; rfl) hv hd⟩
 ·rcases List.mem_append.1 ha with ha | ha
  ·refine ⟨i,rfl,?_⟩
   rcases Nat.lt_or_ge i a with h | h
   ·have hp := chain_pre R a (ps.below a ha) (.inl hch) i h ⟨g,out,v,hE⟩
    exact absurd (ps.closed a ha i hp) ps.notin
   ·exact h
  ·simp at ha; exact ⟨i,rfl,by omega⟩
 ·rcases List.mem_append.1 ha with ha | ha
  ·exact I.nodead a ha g' ou u hE2
  ·simp at ha; subst ha; rw [hE] at hE2; cases hE2
 ·intro b o hb
  rcases hlive b o hb with h | ⟨a,u,h1,h2,rfl,h4⟩
  ·exact G.sim.obj b o h
  ·obtain ⟨p,x,k1,k2,k3⟩ := I.sim.obj _ _ (oldLive a o u h1 h2 h4)
   exact ⟨p,x,G.ext _ _ k1,by rw [G.keep.block p.1 (I.sim.next _ _ k1).2 (outside a o u p h1 h2 h4 k1)]; exact k2,k3.ext G.ext⟩
 ·intro b b' o1 o2 p p' hb hb' hp hp' hne heq hold
  have sep : ∀ a x u b2 y p1 p2,a ∈ pre → E a = .alloc x u → ¬ Pre (Region.before ops) a i → σ' (base + a) = some p1 → out.m.get b2 = some y → σ' b2 = some p2 → p1.1 = p2.1 → False := by
   intro a x u b2 y p1 p2 ha hEa hnp hp1 hb2 hp2 heq
   obtain ⟨q,z,k1,k2,k3⟩ := I.sim.obj _ _ (oldLive a x u ha hEa hnp)
   have := G.ext _ _ k1
   rw [hp1] at this; cases this
   rcases G.dom p2.1 ⟨b2,y,p2,hb2,hp2,rfl⟩ with h | h
   ·rw [← heq] at h; exact outside a x u p1 ha hEa hnp k1 h
   ·have := (I.sim.next _ _ k1).2; omega
  rcases hlive b o1 hb with h | ⟨a,u,h1,h2,rfl,h4⟩
  ·rcases hlive b' o2 hb' with h' | ⟨a',u',h1',h2',rfl,h4'⟩
   ·exact G.sim.apart b b' o1 o2 p p' h h' hp hp' hne heq hold
   ·exact (sep a' o2 u' b o1 p' p h1' h2' h4' hp' h hp heq.symm).elim
  ·rcases hlive b' o2 hb' with h' | ⟨a',u',h1',h2',rfl,h4'⟩
   ·exact (sep a o1 u b' o2 p p' h1 h2 h4 hp h' hp' heq).elim
   ·obtain ⟨q,z,k1,_⟩ := I.sim.obj _ _ (oldLive a o1 u h1 h2 h4)
    obtain ⟨q',z',k1',_⟩ := I.sim.obj _ _ (oldLive a' o2 u' h1' h2' h4')
    have e1 := G.ext _ _ k1
    have e2 := G.ext _ _ k1'
    rw [hp] at e1; cases e1
    rw [hp'] at e2; cases e2
    exact I.sim.apart _ _ o1 o2 p p' (oldLive a o1 u h1 h2 h4) (oldLive a' o2 u' h1' h2' h4') k1 k1' hne heq hold
 ·intro b p hp; rw [hout]; exact G.sim.next b p hp
 ·rcases hlive b o hb with h | ⟨a,u,h1,h2,rfl,h4⟩
  ·rcases G.dom p.1 ⟨b,o,p,h,hp,rfl⟩ with h | h
   ·exact domG _ h
   ·exact .inr (Nat.le_trans I.keep.size h)
  ·obtain ⟨q,z,k1,_⟩ := I.sim.obj _ _ (oldLive a o u h1 h2 h4)
   have e1 := G.ext _ _ k1
   rw [hp] at e1; cases e1
   exact I.dom _ _ p (oldLive a o u h1 h2 h4) k1
 ·have hlt : b < g.next := by rw [gn]; have := I.next; omega
  exact G.fresh b hlt (I.fresh b hb h0')
 ·have hlt : base + a < g.next := by rw [gn]; exact Nat.lt_of_lt_of_le (Nat.add_lt_add_left ha base) I.next
  exact G.fresh _ hlt (I.un a ha fun h => hn (List.mem_append_left _ h))
 ·rw [hout]; exact Nat.le_trans I.next hnext
 ·intro a x u halt hEa hnc
  rw [hout]; exact hpend a x u halt hEa (hnc i rfl)
 ·cases hod : o.dst <;> simp [putA,I.size]
end
end Go.Ev
namespace Go.Ev
open Go
def startH (h0 : H) (n : Nat) : H := ⟨h0.m,h0.next + n⟩
section
variable {P : Program} {ops : Array Oper} {base : Nat} {t0 : Tr LV} {H0 : H} {S : Nat → RS} {E : Nat → En} {σ0 σ : Sg} {h0 : H} {w0 w : World} {pre : List Nat} {c : Option Nat} {tmps : Array Value} {i : Nat} {o : Oper} {rec : Rec} {fx : Fx}
theorem dead_keep {n : Nat} {call : FuncId → List LV → H → Res} (R : Ran P ops n base call t0 H0 S E) {x : Nat × LV × H} : ∀ (d j : Nat),j + d ≤ ops.size → deadOf E j = some x → deadOf E (j + d) = some x := by
 intro d
 induction d with
 | zero => intro j _ h; exact h
 | succ d ih =>
  intro j hj h
  have h1 := ih j (by omega) h
  obtain ⟨o,ho⟩ := oper_at (ops := ops) (i:=j + d) (by omega)
  obtain ⟨hs,_⟩ := R.step (j + d) o ho
  have hde := dead_eq R (j + d) (by omega)
  rw [show j + (d + 1) = j + d + 1 by omega]
  simp only [deadOf]
  split
  ·rename_i g out v hE
   unfold StepR at hs
   rw [hE] at hs
   obtain ⟨_,_,_,_,h5,_⟩ := hs
   rw [hde,h1] at h5; cases h5
  ·exact h1
theorem last_eq {m : Nat} (h1 : ∀ c',c = some c' → c' < m ∧ isCh E c') (h2 : ∀ a,a < m → isCh E a → ∃ c',c = some c' ∧ a ≤ c') : lastChain (snapsOf H0 E m) = c := by
 obtain ⟨l1,l2⟩ := last_spec (H0 := H0) (E := E) m
 cases hl : lastChain (snapsOf H0 E m) with
 | none =>
  cases c with
  | none => rfl
  | some c' =>
   obtain ⟨q1,q2⟩ := h1 c' rfl
   obtain ⟨c2,q3,_⟩ := l2 c' q1 q2
   rw [hl] at q3; cases q3
 | some c2 =>
  obtain ⟨q1,q2⟩ := l1 c2 hl
  obtain ⟨c',rfl,q3⟩ := h2 c2 q1 q2
  obtain ⟨q4,q5⟩ := h1 c' rfl
  obtain ⟨c3,q6,q7⟩ := l2 c' q4 q5
  rw [hl] at q6; cases q6
  congr 1; omega
theorem put_bound {n : Nat} {t t' : Tr LV} {v : LV} (h : PutOK n t o.dst v t') : ∀ d,o.dst = some d → d < n := by
 rcases h with ⟨h,_⟩ | ⟨d,h,h1,_⟩
 ·intro d hd; rw [h] at hd; cases hd
 ·intro d' hd; rw [h] at hd; cases hd; exact h1
structure Ctx (P : Program) (ops : Array Oper) (rec : Rec) (fx : Fx) (t0 : Tr LV) (k : List LItem) (ds : List LDef) (σ0 : Sg) (h0 : H) (w0 : World) (S : Nat → RS) (E : Nat → En)
  (fn : FuncId) (k' : List Item) (ds' : List Deferred) (kind : CallKind) (r : Option Nat) (cs : List Frame) (pan : Pan) : Prop where
 sound : Sound P rec
 ran : Ran P ops fx.n h0.next (callN P rec) t0 (startH h0 ops.size) S E
 temps : TempsOK ops
 fn : fn = fx.fn
 known : ∃ f,P.funcs[fx.fn]? = some f
 todo : TodoR σ0 k k'
 ds : DefsR σ0 ds ds'
 round : RoundR σ0 fx.round r
 pan : PanR σ0 pan kind cs
variable {k : List LItem} {ds : List LDef} {fn : FuncId} {k' : List Item} {ds' : List Deferred} {kind : CallKind} {r : Option Nat} {cs : List Frame} {pan : Pan}
theorem plain_of (C : Ctx P ops rec fx t0 k ds σ0 h0 w0 S E fn k' ds' kind r cs pan) : ∀ a x u,E a = .alloc x u → a < ops.size → x.kin = [] ∧ x.old = false := by
 intro a x u hE ha
 obtain ⟨o,ho⟩ := oper_at (ops := ops) (i:=a) ha
 obtain ⟨hs,_⟩ := C.ran.step a o ho
 unfold StepR at hs
 rw [hE] at hs
 obtain ⟨_,_,_,_,_,mk,hx,_⟩ := hs
 exact lalloc_plain hx
theorem region_end (C : Ctx P ops rec fx t0 k ds σ0 h0 w0 S E fn k' ds' kind r cs pan) (I : Inv P ops fx.n h0.next (startH h0 ops.size) S E σ0 h0 w0 pre c σ w tmps) (hall : ∀ i,i ∈ pre ↔ i < ops.size) {F0 : Frame} (hst : Steps P (lone F0 cs w0) (lone ⟨fn,tmps,.inRegion ops [] :: k',ds',.run,kind,r⟩ cs w))
  (hk : F0.kind = kind) (hf : F0.fn = fn) (hr : F0.roundOf = r) {h' : H} (hp : PromR (Region.before ops) (lastChain (S ops.size).snaps) none (S ops.size).allocs (S ops.size).h h') :
  ResOK P σ0 h0 w0 F0 cs pan (rec fx (S ops.size).t k ds .run h' pan) := by
 have hlast : lastChain (snapsOf (startH h0 ops.size) E ops.size) = c := last_eq (fun c' hc => ⟨(hall c').1 (I.last1 c' hc).1,(I.last1 c' hc).2⟩) fun a ha hch => I.last2 a ((hall a).2 ha) hch
 rw [snaps_eq C.ran ops.size (Nat.le_refl _),heap_eq C.ran ops.size (Nat.le_refl _),hlast] at hp
 have hlive : ∀ b o,h'.m.get b = some o → Live (Region.before ops) (startH h0 ops.size) E h0.next pre c b o := fun b o hb => by
  rcases hp.2 b o hb with h | ⟨a,hm,hpb⟩
  ·exact .inl h
  ·obtain ⟨h1,h2,v,h3⟩ := alloc_mem C.ran ops.size (Nat.le_refl _) a b o hm
   unfold promB at hpb
   simp only [Bool.true_and,Bool.not_eq_true'] at hpb
   refine .inr ⟨a,v,(hall a).2 h1,h3,h2,fun c' hc hpre => ?_⟩
   subst hc
   simp only at hpb
   rw [hpre] at hpb; cases hpb
 have hsim : Sim P σ h' w := I.sim.sub (by rw [hp.1]; exact Nat.le_refl _) hlive
 have hgoes : Goes P σ0 h0 w0 σ h' w := by
  refine ⟨hsim,I.ext,I.keep,?_,by rw [hp.1]; have := I.next; omega,I.fresh⟩
  rintro β ⟨b,o,p,hb,hpp,rfl⟩
  exact I.dom b o p (hlive b o hb) hpp
 have htm : ∀ x,(getT (S ops.size).t x).re σ = some (tmps.getD x undef) := fun x => I.tmps ops.size (Nat.le_refl _) x fun j o hj _ => by
  rw [hall]
 refine ResOK.step (hst.trans (.one st_regionEnd)) hgoes hk.symm hf.symm hr.symm (CsR.refl _ _) ?_
 exact C.sound.2 _ _ _ _ _ _ _ _ _ _ _ hsim ⟨C.fn,C.known,I.size,htm,C.ds.ext I.ext,rfl,fun _ => C.todo.ext I.ext,C.round.ext I.ext⟩ (PanR.ext I.ext C.pan)
theorem load_cells (C : Ctx P ops rec fx t0 k ds σ0 h0 w0 S E fn k' ds' kind r cs pan) (I : Inv P ops fx.n h0.next (startH h0 ops.size) S E σ0 h0 w0 pre c σ w tmps) (ps : Pos ops pre i) {b off m : Nat} {vs : List LV} {v : LV} (hE : E i = .load b off vs v)
  (hst : stable (Region.before ops) i b off m vs (S i).snaps = true) (hm : vs.length = m) : sameCells ((heapOf (startH h0 ops.size) E c).read b off m) vs = true := by
 rw [snaps_eq C.ran i (Nat.le_of_lt ps.lt)] at hst
 have far : ∀ c',c = some c' → i < c' → sameCells ((heapOf (startH h0 ops.size) E c).read b off m) vs = true := by
  intro c' hc hlt
  obtain ⟨h1,g,out,u,hEc⟩ := I.last1 c' hc
  have hc'lt := ps.below c' h1
  obtain ⟨o2,ho2⟩ := oper_at (ops := ops) (i:=c') hc'lt
  obtain ⟨hs,_⟩ := C.ran.step c' o2 ho2
  unfold StepR at hs
  rw [hEc] at hs
  obtain ⟨_,_,_,_,_,_,_,_,_,_,_,hwo⟩ := hs
  have hmem := watch_mem C.ran c' (Nat.le_of_lt hc'lt) i b off vs v hlt hE
  rcases watch_spec hwo i b off vs hmem with h | h
  ·exact absurd (ps.closed c' h1 i h) ps.notin
  ·rw [hc]; simp only [heapOf,hEc]; rw [← hm]; exact h
 by_cases hfar : ∃ c',c = some c' ∧ i < c'
 ·obtain ⟨c',hc,hlt⟩ := hfar; exact far c' hc hlt
 ·have hnear : ∀ c',c = some c' → c' < i ∧ isCh E c' := fun c' hc => by
   obtain ⟨h1,h2⟩ := I.last1 c' hc
   refine ⟨?_,h2⟩
   rcases Nat.lt_trichotomy c' i with h | h | h
   ·exact h
   ·subst h; exact absurd h1 ps.notin
   ·exact absurd ⟨c',hc,h⟩ hfar
  rcases stable_spec (H0 := (startH h0 ops.size)) i hst c hnear with ⟨c2,q1,q2,q3,q4⟩ | q
  ·obtain ⟨c',hc,hle⟩ := I.last2 c2 (ps.preds c2 q4) q2
   have := q3 c' hc
   omega
  ·exact q
theorem load_val (s : Sim P σ (heapOf (startH h0 ops.size) E c) w) {ty : TypeId} {b off m : Nat} {vs : List LV} {v : LV} {g : H} {p : Nat × Nat} (hsz : loadSize P ty = some m) (hr : g.read b off m = some vs) (hv : loadL P g ty b off = some v)
  (hc : sameCells ((heapOf (startH h0 ops.size) E c).read b off m) vs = true) (hp : σ b = some p) : ∃ v',v.re σ = some v' ∧ (loadVar ty ⟨p.1,off,none⟩).run P w = .ok v' w := by
 unfold sameCells at hc
 split at hc
 ·rename_i ws hws
  unfold loadSize at hsz
  split at hsz
  ·rename_i ha
   have hv2 : loadL P (heapOf (startH h0 ops.size) E c) ty b off = some (.agg ws) := by
    unfold loadL; rw [ha]; dsimp only; unfold loadAgg; rw [hsz]; dsimp only; rw [hws]; rfl
   have hv1 : v = .agg vs := by
    unfold loadL at hv; rw [ha] at hv; dsimp only at hv; unfold loadAgg at hv; rw [hsz] at hv; dsimp only at hv; rw [hr] at hv; cases hv; rfl
   obtain ⟨v',h1,h2⟩ := load_run s hv2 hp
   refine ⟨v',?_,h2⟩
   rw [hv1]
   simp only [LV.re] at h1 ⊢
   rw [← beqL_re hc]; exact h1
  ·rename_i ha
   cases hsz
   cases ws with
   | nil => have := (readL_len1 hws); cases this
   | cons u ws =>
    cases ws with
    | cons _ _ => have := (readL_len1 hws); simp at this
    | nil =>
     have hv2 : loadL P (heapOf (startH h0 ops.size) E c) ty b off = some u := by
      unfold loadL; rw [ha]; dsimp only; rw [hws]; rfl
     have hv1 : vs = [v] := by
      unfold loadL at hv; rw [ha] at hv; dsimp only at hv; rw [hr] at hv
      unfold oneL at hv
      split at hv
      ·rename_i x hx; cases hv; cases hx; rfl
      ·cases hv
     obtain ⟨v',h1,h2⟩ := load_run s hv2 hp
     refine ⟨v',?_,h2⟩
     rw [hv1] at hc
     simp only [LV.beqL,Bool.and_true] at hc
     rw [← beq_re hc]; exact h1
  ·cases hsz
 ·cases hc
end
end Go.Ev
namespace Go.Ev
open Go
section
variable {P : Program} {ops : Array Oper} {t0 : Tr LV} {S : Nat → RS} {E : Nat → En} {σ0 σ : Sg} {h0 : H} {w0 w : World} {pre : List Nat} {c : Option Nat} {tmps : Array Value} {i : Nat} {o : Oper} {rec : Rec} {fx : Fx}
variable {k : List LItem} {ds : List LDef} {fn : FuncId} {k' : List Item} {ds' : List Deferred} {kind : CallKind} {r : Option Nat} {cs : List Frame} {pan : Pan}
theorem ldefer_cases (t : Tr LV) (c : Call) : ldefer t c = .no ∨ ∃ d,ldefer t c = .defer d := by
 unfold ldefer
 split
 ·unfold deferValue
  split
  ·exact .inr ⟨_,rfl⟩
  ·exact .inr ⟨_,rfl⟩
  ·exact .inl rfl
 ·exact .inl rfl
theorem nodefer_lheap {t : Tr LV} {g : H} (h : ∀ d,lheap P t g o.op ≠ .defer d) (hn : lheap P t g o.op ≠ .no) : ∀ c,o.op ≠ .defer c := by
 intro c hc
 rw [hc] at h hn
 rcases ldefer_cases t c with h1 | ⟨d,h1⟩
 ·exact hn h1
 ·exact h d h1
theorem region_run (C : Ctx P ops rec fx t0 k ds σ0 h0 w0 S E fn k' ds' kind r cs pan) {L : List Nat} (hL : Order ops L) {F0 : Frame} (hk : F0.kind = kind) (hf : F0.fn = fn) (hr : F0.roundOf = r) {rr : RR}
  (hrr : (∃ c v o,deadOf E ops.size = some (c,v,o) ∧ rr = .panic v o) ∨
   (deadOf E ops.size = none ∧ (rr = .no ∨ ∃ h',PromR (Region.before ops) (lastChain (S ops.size).snaps) none (S ops.size).allocs (S ops.size).h h' ∧ rr = .val (S ops.size).t h'))) :
  ∀ (post pre : List Nat) (c : Option Nat) (σ : Sg) (w : World) (tmps : Array Value),L = pre ++ post → Inv P ops fx.n h0.next (startH h0 ops.size) S E σ0 h0 w0 pre c σ w tmps →
   Steps P (lone F0 cs w0) (lone ⟨fn,tmps,.inRegion ops post :: k',ds',.run,kind,r⟩ cs w) → ResOK P σ0 h0 w0 F0 cs pan (regionBack rec fx k ds pan rr) := by
 intro post
 induction post with
 | nil =>
  intro pre c σ w tmps hpre I hst
  have hall : ∀ i,i ∈ pre ↔ i < ops.size := fun i => by
   rw [← hL.all i,hpre,List.append_nil]
  rcases hrr with ⟨c',v,o,hd,rfl⟩ | ⟨hd,rfl | ⟨h',hp,rfl⟩⟩
  ·obtain ⟨h1,g,h2⟩ := (dead_spec (E := E) ops.size).1 c' v o hd
   exact absurd h2 (I.nodead c' ((hall c').2 h1) g o v)
  ·trivial
  ·exact region_end C I hall hst hk hf hr hp
 | cons i post ih =>
  intro pre c σ w tmps hpre I hst
  have closed : ∀ (k : Nat) (p1 p2 : List Nat),L = p1 ++ k :: p2 → ∀ j,Pre (Region.before ops) j k → j ∈ p1 := by
   intro k
   induction k using Nat.strongRecOn with
   | _ k ih2 =>
    intro p1 p2 hl j hj
    obtain ⟨o,ho⟩ := pre_known C.ran.edges hj
    obtain ⟨e,m1,m2,m3⟩ := (before_spec C.ran.edges ho).1 hj
    have hin := hL.pred p1 k p2 o e hl ho m1 m2
    rcases m3 with rfl | m3
    ·exact hin
    ·obtain ⟨q1,q2,hq⟩ := List.append_of_mem hin
     have hlt := C.ran.edges k o ho e m1 m2
     have := ih2 e.on hlt q1 (q2 ++ k :: p2) (by rw [hl,hq]; simp) j m3
     rw [hq]; simp [this]
  have hmem : i ∈ L := by rw [hpre]; simp
  have ps : Pos ops pre i := by
   refine ⟨fun k hk j hj => ?_,fun j hj => closed i pre post hpre j hj,?_,(hL.all i).1 hmem,fun k hk => (hL.all k).1 (by rw [hpre]; simp [hk])⟩
   ·obtain ⟨q1,q2,hq⟩ := List.append_of_mem hk
    have := closed k q1 (q2 ++ i :: post) (by rw [hpre,hq]; simp) j hj
    rw [hq]; simp [this]
   ·have := hL.nodup
    rw [hpre,List.nodup_append] at this
    intro hm
    exact this.2.2 i hm i (by simp) rfl
  obtain ⟨o,ho⟩ := oper_at (ops := ops) ps.lt
  obtain ⟨hs,hskip⟩ := C.ran.step i o ho
  have hpre2 : L = (pre ++ [i]) ++ post := by rw [hpre]; simp
  have hi := Nat.le_of_lt ps.lt
  have hT : ∀ x,x ∈ o.looksAt ops → (getT (S i).t x).re σ = some (tmps.getD x undef) := fun x hx => I.tmps i hi x (reads_at C.temps ps ho hx)
  have V := view_of (P := P) (ops := ops) (o := o) (T := (S i).t) (F := ⟨fn,tmps,.inRegion ops (i :: post) :: k',ds',.run,kind,r⟩) hT
  unfold StepR at hs
  cases hE : E i with
  | skip =>
   rw [hE] at hs
   obtain ⟨_,c',v,hh,hdd,hpc⟩ := hs
   rw [dead_eq C.ran i hi] at hdd
   obtain ⟨_,g,h2⟩ := (dead_spec (E := E) i).1 c' v hh hdd
   exact absurd h2 (I.nodead c' (ps.preds c' hpc) g hh v)
  | quiet v =>
   rw [hE] at hs
   obtain ⟨hput,_,_,_,hcase⟩ := hs
   have hbnd := put_bound hput
   rcases hcase with ⟨hw,rfl⟩ | ⟨hw,hp⟩
   ·rw [V.want] at hw
    have I2 := Inv.quiet C.ran C.temps I ps ho (v:=undefL) (v' := undef) (by rw [hE]; rfl) rfl hbnd (fun x u => by rw [hE]; simp) (by rintro ⟨g,o,v,h⟩; rw [hE] at h; cases h)
    exact ih _ c σ w _ hpre2 I2 (hst.trans (.one (st_unwanted ho hw)))
   ·rw [V.want] at hw
    have hpn := V.pure
    rw [hp] at hpn
    obtain ⟨v',hv,hrun⟩ := hpn
    have I2 := Inv.quiet C.ran C.temps I ps ho (v:=v) (v' := v') (by rw [hE]; rfl) hv hbnd (fun x u => by rw [hE]; simp) (by rintro ⟨g,o,v,h⟩; rw [hE] at h; cases h)
    have hnd : r = none ∨ ∀ c,o.op ≠ .defer c := .inr fun c hc => by rw [hc] at hp; simp [lpure] at hp
    exact ih _ c σ w _ hpre2 I2 (hst.trans (.one (st_value ho hw hnd (hrun w))))
  | alloc x v =>
   rw [hE] at hs
   obtain ⟨hput,_,_,_,hw,mk,hx,rfl⟩ := hs
   have hbnd := put_bound hput
   rw [V.want] at hw
   obtain ⟨cap,obj,VV,h1,h2,h3⟩ := V.alloc x mk hx
   have I2 := Inv.alloc C.ran C.temps I ps ho hE hbnd h1 (lalloc_plain hx).2 (h3 _ _ w.heap.size Sg.put_same)
   have hnd : r = none ∨ ∀ c,o.op ≠ .defer c := .inr fun c hc => by rw [hc] at hx; simp [lalloc] at hx
   exact ih _ c _ _ _ hpre2 I2 (hst.trans (.one (st_value ho hw hnd (h2 w))))
  | load b off vs v =>
   rw [hE] at hs
   obtain ⟨hput,_,_,_,hw,ty,a,m,hop,hev,hsz,hrd,hst2,hv⟩ := hs
   have hbnd := put_bound hput
   rw [V.want] at hw
   have hat := V.at_ a (by rw [hop]; simp [Op.operands])
   rw [hev] at hat
   simp only [LV.re] at hat
   split at hat
   ·rename_i p hp
    simp only [Option.some.injEq] at hat
    have hcells := load_cells C I ps hE hst2 (read_len hrd)
    have hsim : Sim P σ (heapOf (startH h0 ops.size) E c) w := I.sim.sub (Nat.le_refl _) fun b o hb => .inl hb
    obtain ⟨v',h1,h2⟩ := load_val hsim hsz hrd hv hcells hp
    have hrun : (execOp (⟨fn,tmps,.inRegion ops (i :: post) :: k',ds',.run,kind,r⟩ : Frame).eval o).run P w = .ok (.value v') w := by
     obtain ⟨dst,op,type,pos,af,gd⟩ := o
     dsimp only at hop
     subst hop
     simp only [execOp,← hat,Instr.loadAt,Instr.sureAddr,Sem.run_bind,Sem.run_pure,Result.andThen_ok,h2]
    have I2 := Inv.quiet C.ran C.temps I ps ho (v:=v) (v' := v') (by rw [hE]; rfl) h1 hbnd (fun x u => by rw [hE]; simp) (by rintro ⟨g,o,v,h⟩; rw [hE] at h; cases h)
    have hnd : r = none ∨ ∀ c,o.op ≠ .defer c := .inr fun c hc => by rw [hc] at hop; cases hop
    exact ih _ c σ w _ hpre2 I2 (hst.trans (.one (st_value ho hw hnd hrun)))
   ·cases hat
  | chain g out v =>
   rw [hE] at hs
   obtain ⟨hput,_,_,_,_,_,_,hw,hac,hg,⟨pp,hcall⟩,_⟩ := hs
   have hbnd := put_bound hput
   rw [V.want] at hw
   have hlast : lastChain (snapsOf (startH h0 ops.size) E i) = c := last_eq (fun c' hc => by
     obtain ⟨q1,q2⟩ := I.last1 c' hc
     refine ⟨?_,q2⟩
     rcases Nat.lt_trichotomy c' i with h | h | h
     ·exact h
     ·subst h; exact absurd q1 ps.notin
     ·have := chain_pre C.ran c' (ps.below c' q1) (.inl q2) i h ⟨g,out,v,hE⟩
      exact absurd (ps.closed c' q1 i this) ps.notin) fun a ha hch => I.last2 a (ps.preds a (chain_pre C.ran i ps.lt (.inl ⟨g,out,v,hE⟩) a ha hch)) hch
   obtain ⟨gn,gl⟩ := given_live C.ran I ps hlast hg
   have hsim : Sim P σ g w := I.sim.sub (by rw [gn]; exact Nat.le_refl _) fun b o hb => (gl b o hb).imp id fun ⟨a,u,h1,h2,h3,_,h5⟩ => ⟨a,u,h1,h2,h3,h5⟩
   have hop := V.heap g w hsim
   have fin : ∀ σ' w' v',Goes P σ g w σ' out w' → v.re σ' = some v' → Steps P (lone ⟨fn,tmps,.inRegion ops (i :: post) :: k',ds',.run,kind,r⟩ cs w) (lone ⟨fn,putA tmps o.dst v',.inRegion ops post :: k',ds',.run,kind,r⟩ cs w') →
     ResOK P σ0 h0 w0 F0 cs pan (regionBack rec fx k ds pan rr) := fun σ' w' v' G hv hs2 =>
    ih _ (some i) σ' w' _ hpre2 (Inv.chain C.ran C.temps I ps ho hE hlast hbnd hg rfl (plain_of C) G hv) (hst.trans hs2)
   cases hl : lheap P (S i).t g o.op with
   | val u h' =>
    rw [hl] at hcall hop
    cases hcall
    obtain ⟨σ',w',v',G,hv,hrun | ⟨hrun,rfl⟩⟩ := hop
    ·exact fin σ' w' v' G hv (.one (st_value ho hw (.inr (nodefer_lheap (by rw [hl]; simp) (by rw [hl]; simp))) hrun))
    ·exact fin σ' w' undef G hv (.one (st_skipOp ho hw (.inr (nodefer_lheap (by rw [hl]; simp) (by rw [hl]; simp))) hrun))
   | enter f args =>
    rw [hl] at hcall hop
    obtain ⟨args',ha,hrun⟩ := hop
    have hstep := st_enter (P := P) (fn := fn) (k := k') (ds := ds') (kind := kind) (cs := cs) ho hw (.inr (nodefer_lheap (by rw [hl]; simp) (by rw [hl]; simp))) hrun
    have hc := callF_ok (pan := .none) (cs := ⟨fn,tmps,.inRegion ops (i :: post) :: k',ds',.run,kind,r⟩ :: cs) (kind := .normal) C.sound hsim (f := f) ha (.inl rfl)
    have hcall2 : callF P rec f args g .none = .ret v out pp := hcall
    rw [hcall2] at hc
    obtain ⟨σ',w2,F2,cs2,v',f2,G,st,q1,q2,q3,q4,q5,q6,q7,q8⟩ := hc
    have hcs := callers_same rfl q8
    subst hcs
    have hret := st_return (c := ⟨fn,tmps,.inRegion ops (i :: post) :: k',ds',.run,kind,r⟩) (cs := cs) q3 q4 (by rw [q1]; rfl) q5 q6
    rw [finish_op ho] at hret
    exact fin σ' w2 v' G q7 ((Steps.one hstep).trans (st.trans (.one hret)))
   | _ => rw [hl] at hcall; cases hcall
  | dead g out v =>
   rw [hE] at hs
   obtain ⟨_,_,_,_,hnd,_,_,hw,hac,hg,⟨pp,hcall⟩⟩ := hs
   rw [V.want] at hw
   have hlast : lastChain (snapsOf (startH h0 ops.size) E i) = c := last_eq (fun c' hc => by
     obtain ⟨q1,q2⟩ := I.last1 c' hc
     refine ⟨?_,q2⟩
     rcases Nat.lt_trichotomy c' i with h | h | h
     ·exact h
     ·subst h; exact absurd q1 ps.notin
     ·-- a call behind the panic
      obtain ⟨o2,ho2⟩ := oper_at (ops := ops) (ps.below c' q1)
      obtain ⟨hs2,_⟩ := C.ran.step c' o2 ho2
      obtain ⟨g2,out2,v2,hE2⟩ := q2
      unfold StepR at hs2
      rw [hE2] at hs2
      obtain ⟨_,_,_,_,hn2,_⟩ := hs2
      rw [dead_eq C.ran c' (Nat.le_of_lt (ps.below c' q1))] at hn2
      exact absurd hE ((dead_spec (E := E) c').2 hn2 i h g out v)) fun a ha hch => I.last2 a (ps.preds a (chain_pre C.ran i ps.lt (.inr ⟨g,out,v,hE⟩) a ha hch)) hch
   have hp2 : PromR (Region.before ops) (lastChain (S i).snaps) (some i) (S i).allocs (S i).h g := hg
   obtain ⟨gn,gl⟩ := given_live C.ran I ps hlast hp2
   have gLive : ∀ b o,g.m.get b = some o → Live (Region.before ops) (startH h0 ops.size) E h0.next pre c b o := fun b o hb => (gl b o hb).imp id fun ⟨a,u,h1,h2,h3,_,h5⟩ => ⟨a,u,h1,h2,h3,h5⟩
   have hsim : Sim P σ g w := I.sim.sub (by rw [gn]; exact Nat.le_refl _) gLive
   have hop := V.heap g w hsim
   cases hl : lheap P (S i).t g o.op with
   | enter f args =>
    rw [hl] at hcall hop
    obtain ⟨args',ha,hrun⟩ := hop
    have hstep := st_enter (P := P) (fn := fn) (k := k') (ds := ds') (kind := kind) (cs := cs) ho hw (.inr (nodefer_lheap (by rw [hl]; simp) (by rw [hl]; simp))) hrun
    have hc := callF_ok (pan := .none) (cs := ⟨fn,tmps,.inRegion ops (i :: post) :: k',ds',.run,kind,r⟩ :: cs) (kind := .normal) C.sound hsim (f := f) ha (.inl rfl)
    have hcall2 : callF P rec f args g .none = .panicked v out pp := hcall
    rw [hcall2] at hc
    obtain ⟨σ',w2,F2,cs2,v',f2,G,st,q1,q3,q4,q5,q7,q8⟩ := hc
    have hcs := callers_same rfl q8
    subst hcs
    have hret := st_panicked (w := w2) (c := ⟨fn,tmps,.inRegion ops (i :: post) :: k',ds',.run,kind,r⟩) (cs := cs) q3 q4 q5
    have hdead : deadOf E ops.size = some (i,v,out) := by
     have := dead_keep C.ran (x := (i,v,out)) (ops.size - (i + 1)) (i + 1) (by have := ps.lt; omega) (by simp [deadOf,hE])
     rw [show i + 1 + (ops.size - (i + 1)) = ops.size by have := ps.lt; omega] at this
     exact this
    rcases hrr with ⟨c',v2,o2,hd,rfl⟩ | ⟨hd,_⟩
    ·rw [hdead] at hd; cases hd
     unfold regionBack
     cases ds with
     | cons => trivial
     | nil =>
      have hds := C.ds
      cases hds
      obtain ⟨f3,hf3⟩ := C.known
      have domG : ∀ β,Dom σ g β → Dom σ0 h0 β ∨ w0.heap.size ≤ β := by
       rintro β ⟨b,o,p,hb,hp,rfl⟩
       exact I.dom b o p (gLive b o hb) hp
      have GG : Goes P σ0 h0 w0 σ' out w2 := by
       refine ⟨G.sim,I.ext.trans G.ext,I.keep.trans G.keep domG,fun β hβ => ?_,?_,fun b hb hn => ?_⟩
       ·rcases G.dom β hβ with h | h
        ·exact domG β h
        ·exact .inr (Nat.le_trans I.keep.size h)
       ·have h1 := I.next; have h2 := G.next; omega
       ·exact G.fresh b (by rw [gn]; have := I.next; omega) (I.fresh b hb hn)
      exact ⟨σ',w2,⟨fn,tmps,.inRegion ops (i :: post) :: k',[],.panicking [entry v' false],kind,r⟩,cs,v',f3,GG,hst.trans ((Steps.one hstep).trans (st.trans (.one hret))),hk.symm,rfl,rfl,by
       show P.funcs[fn]? = some f3
       rw [C.fn]; exact hf3,q7,CsR.refl _ _⟩
    ·rw [hdead] at hd; cases hd
   | _ => rw [hl] at hcall; cases hcall
theorem tempsB_spec (h : tempsB ops (Region.before ops) = true) : TempsOK ops := by
 intro i oi j oj x hi hj hd hm hne
 unfold tempsB at h
 rw [List.all_eq_true] at h
 have h1 := h (oi,i) (by rw [List.mem_zipIdx_iff_getElem?]; simpa using hi)
 dsimp only at h1
 rw [hd] at h1
 dsimp only at h1
 rw [List.all_eq_true] at h1
 have h2 := h1 (oj,j) (by rw [List.mem_zipIdx_iff_getElem?]; simpa using hj)
 simp only [beq_dec,Bool.or_eq_true,decide_eq_true_eq,Bool.not_eq_true'] at h2
 rcases h2 with h2 | h2 | h2
 ·exact absurd h2 hne
 ·unfold mentions at h2
  simp only [Bool.or_eq_false_iff] at h2
  rcases hm with hm | hm
  ·rw [hm] at h2; simp at h2
  ·have := h2.2
   rw [List.contains_iff_mem.2 hm] at this; cases this
 ·exact h2
theorem edgesB_spec (h : edgesB ops = true) : ∀ (k : Nat) (o : Oper),ops[k]? = some o → ∀ e ∈ o.after,Region.binds .any e = true → e.on < k := by
 intro k o ho e he hb
 unfold edgesB at h
 rw [List.all_eq_true] at h
 have h1 := h (o,k) (by rw [List.mem_zipIdx_iff_getElem?]; simpa using ho)
 dsimp only at h1
 rw [List.all_eq_true] at h1
 have h2 := h1 e (by simpa using he)
 rw [hb] at h2
 simpa [blt_dec] using h2
theorem draw_ok (hm : P.follows .mixedOrders = true) (hrec : Sound P rec) (fx : Fx) (t : Tr LV) (k : List LItem) (ds : List LDef) (h : H) (pan : Pan) (σ : Sg) (w : World) (F : Frame) (cs : List Frame) (id : Nat) (ops : Array Oper) (s : Sim P σ h w)
  (fr : FR P σ fx t (.code (.region id ops true) :: k) ds .run F) (hp : PanR σ pan F.kind cs) : ResOK P σ h w F cs pan (regionBack rec fx k ds pan (evalR P ops t fx.n h (callN P rec))) := by
 obtain ⟨fn,tmps,todo',ds',mode',kind,r⟩ := F
 obtain rfl : mode' = .run := fr.mode
 have ht := fr.todo rfl
 cases ht with
 | @cons _ _ _ k' hx hk =>
  cases hx
  unfold evalR
  cases hok : regionOK ops (Region.before ops) with
  | false => trivial
  | true =>
   simp only [cond_true,fN_eq]
   cases hsz : Nat.ble (h.next + ops.size) 1000000 with
   | false => trivial
   | true =>
    simp only [cond_true]
    unfold regionOK at hok
    simp only [Bool.and_eq_true] at hok
    have hedges := edgesB_spec hok.1
    refine runR_elim (Φ := fun rr => ResOK P σ h w _ cs pan (regionBack rec fx k ds pan rr)) (by trivial) ops.toList 0 _ (by simp) fun S E hS hrun => ?_
    have R : Ran P ops fx.n h.next (callN P rec) t (startH h ops.size) S E := ⟨hS,fun j o ho => hrun j o (Nat.zero_le _) ho,hedges⟩
    have C : Ctx P ops rec fx t k ds σ h w S E fn k' ds' kind r cs pan := ⟨hrec,R,tempsB_spec hok.2,fr.fn,fr.known,hk,fr.ds,fr.round,hp⟩
    have hlen : 0 + ops.toList.length = ops.size := by simp
    rw [hlen]
    have hst := st_draw (P := P) (fn := fn) (tmps := tmps) (k := k') (ds := ds') (kind := kind) (r := r) (cs := cs) (w := w) (id := id) (ops := ops)
    simp only [Region.schedule,hm,Bool.true_or,if_true] at hst
    have hS0 : ∀ m x,m ≤ ops.size → (∀ j o,ops[j]? = some o → o.dst = some x → ¬ j < m) → getT (S m).t x = getT t x := fun m x hm' hno => by
     have := temps_same R (x := x) m 0 (by omega) fun j o _ hj ho hd => hno j o ho hd (by omega)
     rw [Nat.zero_add] at this
     rw [this,R.start]
    have I0 : Inv P ops fx.n h.next (startH h ops.size) S E σ h w [] none σ { w with drawn := w.drawn + 1 } tmps := by
     have hl : ∀ b o,Live (Region.before ops) (startH h ops.size) E h.next [] none b o → h.m.get b = some o := by
      rintro b o (h1 | ⟨a,v,h1,_⟩)
      ·exact h1
      ·cases h1
     refine ⟨(fun c' hc => by cases hc),(fun a ha => by cases ha),(fun a ha => by cases ha),Ext.refl σ,⟨rfl,rfl,rfl,Nat.le_refl _,fun _ _ _ => rfl⟩,⟨fun b o hb => s.obj b o (hl b o hb),fun b b' o o' p p' hb hb' => s.apart b b' o o' p p' (hl b o hb) (hl b' o' hb'),fun b p hp => ?_⟩,
      fun b o p hb hp => .inl ⟨b,o,p,hl b o hb,hp,rfl⟩,fun b _ hn => hn,fun a ha _ => ?_,Nat.le_refl _,fun a x v ha hE _ => ?_,fr.size,fun m hm' x hx => ?_⟩
     ·obtain ⟨h1,h2⟩ := s.next b p hp
      exact ⟨by simp only [heapOf,startH]; omega,h2⟩
     ·cases hn : σ (h.next + a) with
      | none => rfl
      | some p => have := (s.next _ _ hn).1; omega
     ·show h.m.get (h.next + a) = none
      cases hn : h.m.get (h.next + a) with
      | none => rfl
      | some y =>
       obtain ⟨p,_,hpp,_⟩ := s.obj _ _ hn
       have := (s.next _ _ hpp).1; omega
     ·rw [hS0 m x hm' fun j o ho hd hlt => by have := (hx j o ho hd).1 hlt; cases this]
      exact fr.tmps x
    have hord : Order ops (Region.linearise .any ops (w.tape w.drawn (.order fn id))) := order_of hedges _
    unfold regionEnd
    rw [dead_eq R ops.size (Nat.le_refl _)]
    cases hd : deadOf E ops.size with
    | some x =>
     obtain ⟨c',v,o⟩ := x
     dsimp only
     exact region_run C hord rfl rfl rfl (.inl ⟨c',v,o,hd,rfl⟩) _ [] none σ _ tmps rfl I0 (.one hst)
    | none =>
     dsimp only
     refine promote_elim (Φ := fun rr => ResOK P σ h w _ cs pan (regionBack rec fx k ds pan rr)) (by trivial) _ _ fun h' hp' => ?_
     exact region_run C hord rfl rfl rfl (.inr ⟨hd,.inr ⟨h',hp',rfl⟩⟩) _ [] none σ _ tmps rfl I0 (.one hst)
theorem evalF_sound (hm : P.follows .mixedOrders = true) {memo : Memo} (ho : MemoOK P memo) : ∀ n,Sound P (evalF P memo n) := by
 intro n
 have hmemo : ∀ n,(evalF P memo n).memo = memo := fun n => by cases n <;> rfl
 induction n with
 | zero => exact ⟨ho,fun fx t todo ds mode h pan σ w F cs _ _ _ => trivial⟩
 | succ n ih =>
  have := stepF_ok ih (draw_ok hm ih)
  rw [hmemo n] at this
  exact this
theorem top_ok (hm : P.follows .mixedOrders = true) {memo : Memo} (hmo : MemoOK P memo) {n : Nat} {f : FuncId} {args : List Value} {v : Value} (h : evalTop P memo n f (args.map .prim) = some (.prim v)) (w : World) :
  Calls P f args.toArray w fun e w' => e = .returned v ∧ Go.RowKit.Below w.heap.size w w' := by
 intro cs
 unfold evalTop at h
 have s0 : Sim P (fun _ => none) ⟨.nil,0⟩ w := ⟨(fun b o hb => by cases hb),(fun b b' o o' p p' hb => by cases hb),(fun b p hp => by cases hp)⟩
 have hc := callF_ok (pan := .none) (cs := cs) (kind := .normal) (evalF_sound hm hmo n) s0 (f := f) (args := args.map .prim) (args' := args.toArray) (by simpa using reL_prims args) (.inl rfl)
 cases hr : callF P (evalF P memo n) f (args.map .prim) ⟨.nil,0⟩ .none with
 | ret u h' p =>
  rw [hr] at h hc
  obtain ⟨σ',w',F',cs',v',f',G,st,q1,q2,q3,q4,q5,q6,q7,q8⟩ := hc
  simp only [retOf,Option.some.injEq] at h
  subst h
  simp only [LV.re,Option.some.injEq] at q7
  subst q7
  have hcs : cs' = cs := by
   rcases q8 with ⟨_,rfl⟩ | ⟨_,⟨u,hu⟩,_⟩
   ·rfl
   ·cases hu
  subst hcs
  exact ⟨.returned v,w',F',⟨rfl,⟨G.keep.os,G.keep.tape,G.keep.output,G.keep.size,fun b hb => G.keep.block b hb fun ⟨b2,o2,p2,hb2,_⟩ => by cases hb2⟩⟩,st,q2,q3,q4,q1,f',q5,q6⟩
 | _ => rw [hr] at h; simp [retOf] at h
end
end Go.Ev
namespace Go.Ev
open Go
def lkp : List (Nat × Nat) → Nat → Option Nat
 | [],_ => none
 | (a,c) :: l,x => bif Nat.beq a x then some c else lkp l x
def lkB (r : List (Nat × Nat)) (a c : Nat) : Bool := match lkp r a with
 | some x => Nat.beq x c
 | none => false
mutual
def okV (r : List (Nat × Nat)) : LV → LV → Bool
 | .prim a,.prim b => valEq a b
 | .ptr a b,.ptr c d => lkB r a c && Nat.beq b d
 | .slice a b c d e,.slice f g h i j => lkB r a f && (Nat.beq b g && (Nat.beq c h && (Nat.beq d i && e == j)))
 | .agg a,.agg b => okVL r a b
 | .tuple a,.tuple b => okVL r a b
 | .iface t v,.iface u w => Nat.beq t u && okV r v w
 | _,_ => false
def okVL (r : List (Nat × Nat)) : List LV → List LV → Bool
 | [],[] => true
 | a :: av,b :: bs => okV r a b && okVL r av bs
 | _,_ => false
end
def okO (r : List (Nat × Nat)) (a b : Option LObj) : Bool := match a,b with
 | some (.cells c el [] false),some (.cells d fl [] false) => Nat.beq el fl && okVL r c d
 | _,_ => false
def addP (r : List (Nat × Nat)) (a c : Nat) : List (Nat × Nat) := match lkp r a with
 | some _ => r
 | none => r ++ [(a,c)]
mutual
def gV : LV → LV → List (Nat × Nat) → List (Nat × Nat)
 | .ptr a _,.ptr c _,r => addP r a c
 | .slice a _ _ _ _,.slice c _ _ _ _,r => addP r a c
 | .agg a,.agg b,r => gL a b r
 | .tuple a,.tuple b,r => gL a b r
 | .iface _ v,.iface _ w,r => gV v w r
 | _,_,r => r
def gL : List LV → List LV → List (Nat × Nat) → List (Nat × Nat)
 | a :: av,b :: bs,r => gL av bs (gV a b r)
 | _,_,r => r
end
def cellsOr (o : Option LObj) : List LV := match o with
 | some (.cells c _ _ _) => c
 | _ => []
def closeR (h0 h : H) : Nat → Nat → List (Nat × Nat) → List (Nat × Nat)
 | 0,_,r => r
 | n + 1,k,r => match r[k]? with
  | some (a,c) => closeR h0 h n (k + 1) (gL (cellsOr (h0.m.get a)) (cellsOr (h.m.get c)) r)
  | none => r
def isSomeO (o : Option LObj) : Bool := match o with
 | some _ => true
 | none => false
def injB : List (Nat × Nat) → Bool
 | [] => true
 | (_,c) :: l => !(l.any fun p => Nat.beq p.2 c) && injB l
def matchOK (h0 h : H) (av bs : List LV) (r : List (Nat × Nat)) : Bool :=
 okVL r av bs && (injB r && ((r.all fun p => Nat.blt p.1 h0.next && okO r (h0.m.get p.1) (h.m.get p.2)) && ((List.range h0.next).all fun b => !(isSomeO (h0.m.get b)) || (lkp r b).isSome)))
def fillO {α : Type} : List LObj → Nat → Tr LObj → (Tr LObj → α) → α
 | [],_,t,k => k t
 | o :: l,i,t,k => Tr.putC 20 t i (some o) fun t => fillO l (Nat.succ i) t k
def hOf (l : List LObj) : H := fillO l 0 .nil fun t => ⟨t,l.length⟩
structure Entry where
 f : FuncId
 args : List LV
 blocks : List LObj
 v : Value
def Entry.h (e : Entry) : H := hOf e.blocks
theorem fillO_spec {α : Type} : ∀ (l : List LObj) (i : Nat) (t : Tr LObj) (k : Tr LObj → α),i + l.length ≤ 1000000 → ∃ t',fillO l i t k = k t' ∧ ∀ b,i + l.length ≤ b → t'.get b = t.get b := by
 intro l
 induction l with
 | nil => intro i t k _; exact ⟨t,rfl,fun _ _ => rfl⟩
 | cons o l ih =>
  intro i t k h
  simp only [List.length_cons] at h
  unfold fillO
  rw [Tr.putC_eq]
  obtain ⟨t',h1,h2⟩ := ih (Nat.succ i) (Tr.put 20 t i (some o)) k (by simp; omega)
  refine ⟨t',h1,fun b hb => ?_⟩
  simp only [List.length_cons] at hb
  rw [h2 b (by simp; omega),Tr.get_put20 _ _ _ (by simp [blt_dec]; omega),if_neg (by omega)]
theorem hOf_spec {l : List LObj} (h : l.length ≤ 1000000) : (hOf l).next = l.length ∧ ∀ b,l.length ≤ b → (hOf l).m.get b = none := by
 unfold hOf
 obtain ⟨t',h1,h2⟩ := fillO_spec (α := H) l 0 .nil (fun t => ⟨t,l.length⟩) (by omega)
 rw [h1]
 exact ⟨rfl,fun b hb => by have := h2 b (by omega); rw [this]; rfl⟩
def fitsE (e : Entry) (args : List LV) (h : H) : Bool := matchOK e.h h e.args args (closeR e.h h 200 0 (gL e.args args []))
def memoOne (e : Entry) (f : FuncId) (args : List LV) (h : H) : Option Value := bif Nat.beq e.f f then (bif Nat.ble e.blocks.length 1000000 && fitsE e args h then some e.v else none) else none
def memoAll : List Entry → Memo
 | [] => fun _ _ _ => none
 | e :: es => fun f args h => match memoOne e f args h with
  | some v => some v
  | none => memoAll es f args h
def sameO (a b : Option LObj) : Bool := match a with
 | none => true
 | some (.cells c el [] false) => (match b with
  | some (.cells d fl [] false) => Nat.beq el fl && LV.beqL d c
  | _ => false)
 | some _ => false
def unchanged (h0 h1 : H) : Bool := (List.range h0.next).all fun b => sameO (h0.m.get b) (h1.m.get b)
def entryRes (e : Entry) (r : Res) : Bool := match r with
 | .ret (.prim v) h1 .none => valEq v e.v && unchanged e.h h1
 | _ => false
def entryOK (P : Program) (memo : Memo) (n : Nat) (e : Entry) : Bool := entryRes e (callF P (evalF P memo n) e.f e.args e.h .none)
section
variable {P : Program} {σ : Sg} {r : List (Nat × Nat)}
def comp (r : List (Nat × Nat)) (σ : Sg) : Sg := fun b => match lkp r b with
 | some c => σ c
 | none => none
theorem lkB_eq {a c : Nat} (h : lkB r a c = true) : comp r σ a = σ c := by
 unfold lkB at h
 unfold comp
 split at h
 ·simp only [beq_dec,decide_eq_true_eq] at h; subst h; rfl
 ·cases h
mutual
theorem okV_re : ∀ {a b : LV},okV r a b = true → a.re (comp r σ) = b.re σ
 | .prim a,b,h => by
  cases b <;> simp only [okV] at h <;> try cases h
  rw [valEq_eq h]; rfl
 | .ptr a c,b,h => by
  cases b <;> simp only [okV] at h <;> try cases h
  simp only [Bool.and_eq_true,beq_dec,decide_eq_true_eq] at h
  simp only [LV.re]
  rw [lkB_eq h.1,h.2]
 | .slice a c d e f,b,h => by
  cases b <;> simp only [okV] at h <;> try cases h
  simp only [Bool.and_eq_true,beq_dec,decide_eq_true_eq] at h
  obtain ⟨h1,h2,h3,h4,h5⟩ := h
  have h5 := eq_of_beq h5
  simp only [LV.re]
  rw [lkB_eq h1,h2,h3,h4,h5]
 | .map a,b,h => by cases b <;> simp [okV] at h
 | .func f a c,b,h => by cases b <;> simp [okV] at h
 | .yield a,b,h => by cases b <;> simp [okV] at h
 | .iface t v,b,h => by
  cases b <;> simp only [okV] at h <;> try cases h
  simp only [Bool.and_eq_true,beq_dec,decide_eq_true_eq] at h
  simp only [LV.re]
  rw [h.1,okV_re h.2]
 | .agg a,b,h => by
  cases b <;> simp only [okV] at h <;> try cases h
  simp only [LV.re]
  rw [okVL_re h]
 | .tuple a,b,h => by
  cases b <;> simp only [okV] at h <;> try cases h
  simp only [LV.re]
  rw [okVL_re h]
theorem okVL_re : ∀ {a b : List LV},okVL r a b = true → LV.reL (comp r σ) a = LV.reL σ b
 | [],b,h => by
  cases b <;> simp only [okVL] at h <;> try cases h
  rfl
 | x :: xs,b,h => by
  cases b with
  | nil => simp [okVL] at h
  | cons y ys =>
   simp only [okVL,Bool.and_eq_true] at h
   simp only [LV.reL]
   rw [okV_re h.1,okVL_re h.2]
end
theorem okVL_len : ∀ {a b : List LV},okVL r a b = true → a.length = b.length := by
 intro a
 induction a with
 | nil => intro b h; cases b <;> simp [okVL] at h; rfl
 | cons x xs ih =>
  intro b h
  cases b with
  | nil => simp [okVL] at h
  | cons y ys => simp only [okVL,Bool.and_eq_true] at h; simp [ih h.2]
theorem okO_spec {a b : Option LObj} (h : okO r a b = true) : ∃ c el d,a = some (.cells c el [] false) ∧ b = some (.cells d el [] false) ∧ okVL r c d = true := by
 unfold okO at h
 split at h
 ·rename_i c el d fl
  simp only [Bool.and_eq_true,beq_dec,decide_eq_true_eq] at h
  obtain ⟨rfl,h2⟩ := h
  exact ⟨c,el,d,rfl,rfl,h2⟩
 ·cases h
theorem lkp_mem : ∀ {l : List (Nat × Nat)} {a c : Nat},lkp l a = some c → (a,c) ∈ l := by
 intro l
 induction l with
 | nil => intro a c h; cases h
 | cons p l ih =>
  intro a c h
  obtain ⟨x,y⟩ := p
  simp only [lkp,beq_dec,cond_eq_ite,decide_eq_true_eq] at h
  split at h
  ·rename_i e; subst e; cases h; exact List.mem_cons_self
  ·exact List.mem_cons_of_mem _ (ih h)
theorem injB_spec : ∀ {l : List (Nat × Nat)},injB l = true → ∀ a a' c,lkp l a = some c → lkp l a' = some c → a = a' := by
 intro l
 induction l with
 | nil => intro _ a a' c h; cases h
 | cons p l ih =>
  intro hi a a' c h h'
  obtain ⟨x,y⟩ := p
  simp only [injB,Bool.and_eq_true,Bool.not_eq_true'] at hi
  obtain ⟨h1,h2⟩ := hi
  have hno : ∀ a,lkp l a ≠ some y := fun a ha => by
   have := lkp_mem ha
   rw [List.any_eq_false] at h1
   exact h1 (a,y) this (by simp)
  simp only [lkp,beq_dec,cond_eq_ite,decide_eq_true_eq] at h h'
  split at h
  ·rename_i e
   split at h'
   ·rename_i e'; rw [← e,← e']
   ·cases h; exact absurd h' (hno _)
  ·split at h'
   ·cases h'; exact absurd h (hno _)
   ·exact ih h2 a a' c h h'
theorem memoOne_ok (hm : P.follows .mixedOrders = true) {memo : Memo} (hmo : MemoOK P memo) {n : Nat} {e : Entry} (he : entryOK P memo n e = true) {f : FuncId} {args : List LV} {h : H} {v : Value} (hv : memoOne e f args h = some v)
  {w : World} {cs : List Frame} {kind : CallKind} {args' : Array Value} (s : Sim P σ h w) (ha : LV.reL σ args = some args'.toList) (hp : PanR σ .none kind cs) :
  ResOK P σ h w (Frame.enter P f args' kind) cs .none (.ret (.prim v) h .none) := by
 unfold memoOne at hv
 simp only [beq_dec,cond_eq_ite,decide_eq_true_eq] at hv
 split at hv
 ·rename_i hf
  subst hf
  split at hv
  ·rename_i hfit
   cases hv
   simp only [Bool.and_eq_true,ble_dec,decide_eq_true_eq] at hfit
   obtain ⟨hsmall,hfit⟩ := hfit
   obtain ⟨hnx,hout⟩ := hOf_spec hsmall
   unfold fitsE at hfit
   generalize closeR e.h h 200 0 (gL e.args args []) = r at hfit
   unfold matchOK at hfit
   simp only [Bool.and_eq_true,List.all_eq_true] at hfit
   obtain ⟨k1,k2,k3,k4⟩ := hfit
   have pair : ∀ b c,lkp r b = some c → b < e.h.next ∧ ∃ c0 el d,e.h.m.get b = some (.cells c0 el [] false) ∧ h.m.get c = some (.cells d el [] false) ∧ okVL r c0 d = true := fun b c hbc => by
    obtain ⟨q1,q2⟩ := k3 (b,c) (lkp_mem hbc)
    exact ⟨by simpa [blt_dec] using q1,okO_spec q2⟩
   have s0 : Sim P (comp r σ) e.h w := by
    refine ⟨fun b o hb => ?_,fun b b' o o' p p' hb hb' hp hp' hne heq hold => ?_,fun b p hp => ?_⟩
    ·have hlt : b < e.h.next ∨ ¬ b < e.h.next := Decidable.em _
     rcases hlt with hlt | hlt
     ·have := k4 b (by simpa using hlt)
      rw [hb] at this
      simp only [isSomeO,Bool.not_true,Bool.false_or] at this
      obtain ⟨c,hc⟩ := Option.isSome_iff_exists.1 this
      obtain ⟨_,c0,el,d,h1,h2,h3⟩ := pair b c hc
      rw [hb] at h1; cases h1
      obtain ⟨p,x,q1,q2,q3⟩ := s.obj c _ h2
      refine ⟨p,x,by unfold comp; rw [hc]; exact q1,q2,?_⟩
      obtain ⟨c',fz,sz,e1,e2,e3,e4,e5,e6⟩ := q3
      have hl := okVL_len h3
      exact ⟨c',fz,sz,e1,e2,by rw [hl]; exact e3,e4,by rw [okVL_re h3,e5,hl],e6⟩
     ·have := hout b (by rw [← hnx]; exact Nat.le_of_not_lt hlt)
      have hb' : (hOf e.blocks).m.get b = some o := hb
      rw [this] at hb'; cases hb'
    ·unfold comp at hp hp'
     split at hp
     ·rename_i c hc
      split at hp'
      ·rename_i c2 hc2
       obtain ⟨_,c0,el,d,h1,h2,h3⟩ := pair b c hc
       obtain ⟨_,c02,el2,d2,h12,h22,h32⟩ := pair b' c2 hc2
       have hcc : c ≠ c2 := fun ee => hne (injB_spec k2 b b' c hc (by rw [ee]; exact hc2))
       have := (s.apart c c2 _ _ p p' h2 h22 hp hp' hcc heq rfl).1
       cases this
      ·cases hp'
     ·cases hp
    ·unfold comp at hp
     split at hp
     ·rename_i c hc; exact ⟨(pair b c hc).1,(s.next c p hp).2⟩
     ·cases hp
   have ha0 : LV.reL (comp r σ) e.args = some args'.toList := by rw [okVL_re k1]; exact ha
   have hp0 : PanR (comp r σ) .none kind cs := hp
   have hc := callF_ok (pan := .none) (cs := cs) (kind := kind) (evalF_sound hm hmo n) s0 (f := e.f) ha0 hp0
   unfold entryOK entryRes at he
   split at he
   ·rename_i v1 h1 hres
    rw [hres] at hc
    simp only [Bool.and_eq_true] at he
    obtain ⟨he1,he2⟩ := he
    have hvv := valEq_eq he1
    subst hvv
    obtain ⟨σ1,w1,F1,cs1,v',f1,G,st,q1,q2,q3,q4,q5,q6,q7,q8⟩ := hc
    have hcs : cs1 = cs := by
     rcases q8 with ⟨_,rfl⟩ | ⟨_,⟨u,hu⟩,_⟩
     ·rfl
     ·cases hu
    subst hcs
    have domSub : ∀ β,Dom (comp r σ) e.h β → Dom σ h β := by
     rintro β ⟨b,o,p,hb,hpp,rfl⟩
     unfold comp at hpp
     split at hpp
     ·rename_i c hcc
      obtain ⟨_,c0,el,d,_,h2,_⟩ := pair b c hcc
      exact ⟨c,_,p,h2,hpp,rfl⟩
     ·cases hpp
    have sim1 : Sim P σ h w1 := by
     refine ⟨fun b o hb => ?_,s.apart,fun b p hpp => ⟨(s.next b p hpp).1,Nat.lt_of_lt_of_le (s.next b p hpp).2 G.keep.size⟩⟩
     obtain ⟨p,x,j1,j2,j3⟩ := s.obj b o hb
     by_cases hd : Dom (comp r σ) e.h p.1
     ·obtain ⟨b0,o0,p0,hb0,hp0',heq⟩ := hd
      have hp1 := hp0'
      unfold comp at hp1
      split at hp1
      ·rename_i c hcc
       obtain ⟨hlt0,c0,el,d,h1',h2',h3'⟩ := pair b0 c hcc
       rw [hb0] at h1'; cases h1'
       by_cases hbc : b = c
       ·subst hbc
        rw [h2'] at hb; cases hb
        rw [j1] at hp1; cases hp1
        have hun := (List.all_eq_true.1 he2) b0 (by simpa using hlt0)
        unfold sameO at hun
        rw [hb0] at hun
        dsimp only at hun
        split at hun
        ·rename_i d1 fl hg1
         simp only [Bool.and_eq_true,beq_dec,decide_eq_true_eq] at hun
         obtain ⟨rfl,hun2⟩ := hun
         obtain ⟨p1,x1,i1,i2,i3⟩ := G.sim.obj b0 _ hg1
         have := G.ext _ _ hp0'
         rw [i1] at this; cases this
         refine ⟨p,x1,j1,i2,?_⟩
         obtain ⟨c',fz,sz,e1,e2,e3,e4,e5,e6⟩ := i3
         have hl1 := beqL_len hun2
         have hl2 := okVL_len h3'
         obtain ⟨c2',fz2,sz2,f1,f2,f3,f4,f5,f6⟩ := j3
         have hre0 : LV.reL (comp r σ) c0 = LV.reL σ d := okVL_re h3'
         refine ⟨c',fz,sz,e1,e2,by rw [← hl2,← hl1]; exact e3,e4,?_,e6⟩
         rw [f5] at hre0
         have hre1 := LV.reL_ext G.ext hre0
         rw [← beqL_re hun2,e5] at hre1
         rw [f5,← hl2,← hl1]
         rw [← hl2] at hre1
         simp only [Option.some.injEq] at hre1 ⊢
         rw [hl1] at hre1 ⊢
         exact hre1.symm
        ·cases hun
       ·have := (s.apart c b _ o p0 p h2' hb hp1 j1 (fun e => hbc e.symm) heq rfl).1
        cases this
      ·cases hp1
     ·exact ⟨p,x,j1,by rw [G.keep.block p.1 (s.next _ _ j1).2 hd]; exact j2,j3⟩
    exact ⟨σ,w1,F1,cs1,v',f1,⟨sim1,Ext.refl σ,G.keep.mono domSub,fun β h => .inl h,Nat.le_refl _,fun _ _ h => h⟩,st,q1,q2,q3,q4,q5,q6,q7,CsR.refl _ _⟩
   ·cases he
  ·cases hv
 ·cases hv
theorem memo_nil : MemoOK P (memoAll []) := fun f args h v hv => by cases hv
theorem memo_cons (hm : P.follows .mixedOrders = true) {es : List Entry} (h : MemoOK P (memoAll es)) {n : Nat} {e : Entry} (he : entryOK P (memoAll es) n e = true) : MemoOK P (memoAll (e :: es)) := by
 intro f args hh v hv σ w cs kind args' s ha hp
 simp only [memoAll] at hv
 split at hv
 ·rename_i u hu; cases hv; exact memoOne_ok hm h he hu s ha hp
 ·exact h f args hh v hv σ w cs kind args' s ha hp
end
end Go.Ev
