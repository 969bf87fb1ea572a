/- A part of the proof: texts of this session, joined. -/
import Derived.Test.YtclkokkppgchfaaPart7
import Derived.Test.YtclkokkppgchfaaPart5
import Derived.Test.YtclkokkppgchfaaShort
set_option linter.unusedSimpArgs false
set_option linter.unusedVariables false
set_option maxHeartbeats 3200000
set_option maxRecDepth 100000
namespace Go.Ng
instance (g : G) (p j : Int) : Decidable (g.at_ p j) := inferInstanceAs (Decidable (_ ∧ _))
namespace G
def mAsk (g : G) (p : Int) (c : Clm) : Post := ⟨1,g.home p,g.site c.item,p,c.item,c.version⟩
def mGrant (g : G) (p j : Int) : Post := ⟨2,g.site j,g.home p,p,j,0⟩
def mRefuse (g : G) (p j : Int) : Post := ⟨3,g.site j,g.home p,p,j,0⟩
def mCommit (g : G) (p j : Int) : Post := ⟨4,g.home p,g.site j,p,j,0⟩
def mFree (g : G) (p j : Int) : Post := ⟨5,g.home p,g.site j,p,j,0⟩
def askedG (g : G) (m : Post) : G × List Post × List Came :=
 if m.prop ∈ (g.items m.item).thr ∨ (g.items m.item).hold = some m.prop ∨ m.prop ∈ (g.items m.item).queue then (g,[],[])
 else if m.version ≠ (g.items m.item).ver then (g.setI m.item { g.items m.item with thr := addP m.prop (g.items m.item).thr },[g.mRefuse m.prop m.item],[])
 else match (g.items m.item).hold with
 | some _ => (g.setI m.item { g.items m.item with queue := (g.items m.item).queue ++ [m.prop] },[],[])
 | none => (g.setI m.item { g.items m.item with hold := some m.prop },[g.mGrant m.prop m.item],[])
def grantedG (g : G) (m : Post) : G × List Post × List Came :=
 if g.at_ m.prop m.item then
  match (g.props m.prop).claims[(g.props m.prop).got + 1]? with
  | some c => (g.setP m.prop { g.props m.prop with got := (g.props m.prop).got + 1 },[g.mAsk m.prop c],[])
  | none => ({ g.setP m.prop { g.props m.prop with got := (g.props m.prop).got + 1,st := 2 } with dec := g.dec ++ [m.prop] },(g.props m.prop).claims.map (fun c => g.mCommit m.prop c.item),[⟨1,m.prop,-1⟩])
 else (g,[],[])
def refusedG (g : G) (m : Post) : G × List Post × List Came :=
 if g.at_ m.prop m.item then
  (g.setP m.prop { g.props m.prop with st := 3 },((g.props m.prop).claims.take (g.props m.prop).got).map (fun c => g.mFree m.prop c.item),[⟨2,m.prop,-1⟩])
 else (g,[],[])
def committedG (g : G) (m : Post) : G × List Post × List Came :=
 if (g.items m.item).hold = some m.prop then
  (g.setI m.item ⟨none,[],(g.items m.item).ver + 1,thrAll (g.items m.item).queue (addP m.prop (g.items m.item).thr),(g.items m.item).hist ++ [m.prop]⟩,(g.items m.item).queue.map (fun p => g.mRefuse p m.item),[⟨3,m.prop,m.item⟩])
 else (g,[],[])
def freedG (g : G) (m : Post) : G × List Post × List Came :=
 if (g.items m.item).hold = some m.prop then
  match (g.items m.item).queue.filter (· ≠ m.prop) with
  | [] => (g.setI m.item { g.items m.item with hold := none,thr := addP m.prop (g.items m.item).thr,queue := [] },[],[])
  | a :: l => (g.setI m.item { g.items m.item with hold := some a,thr := addP m.prop (g.items m.item).thr,queue := (a :: l).filter (· ≠ a) },[g.mGrant a m.item],[])
 else (g.setI m.item { g.items m.item with thr := addP m.prop (g.items m.item).thr,queue := (g.items m.item).queue.filter (· ≠ m.prop) },[],[])
def takeG (g : G) (m : Post) : G × List Post × List Came :=
 if m.kind = 2 then g.grantedG m else if m.kind = 3 then g.refusedG m else if m.kind = 1 then g.askedG m else if m.kind = 4 then g.committedG m else g.freedG m
def deliverG (g : G) (i : Nat) (m : Post) : G := { (g.takeG m).1 with fl := g.fl.eraseIdx i ++ (g.takeG m).2.1 }
def proposeG (g : G) (place : Int) (l : List Clm) (c : Clm) : G :=
 { g.setP g.np ⟨l,1,0⟩ with np := g.np + 1,home := fun p => if p = g.np then place else g.home p,fl := g.fl ++ [⟨1,place,g.site c.item,g.np,c.item,c.version⟩] }
def dropG (g : G) (p : Int) : G :=
 { g.setP p { g.props p with st := 4 } with fl := g.fl ++ ((g.props p).claims.take ((g.props p).got + 1)).map (fun c => g.mFree p c.item) }
end G
structure Routed (g : G) (m : Post) : Prop where
 dst : (m.kind = 2 ∨ m.kind = 3 → m.src = g.site m.item ∧ m.dst = g.home m.prop) ∧ (m.kind ≠ 2 → m.kind ≠ 3 → m.src = g.home m.prop ∧ m.dst = g.site m.item)
 ver : m.kind ≠ 1 → m.version = 0
 ask : m.kind = 1 → ⟨m.item,m.version⟩ ∈ (g.props m.prop).claims
structure NGood (g : G) : Prop where
 inv : Inv g g.has
 route : ∀ m ∈ g.fl,Routed g m
 clv : ∀ (p : Int),∀ c ∈ (g.props p).claims,0 ≤ c.version
section
variable {g : G}
theorem has_mem {m : Post} (h : m ∈ g.fl) : g.has m.kind m.prop m.item := ⟨m,h,rfl,rfl,rfl⟩
def kinds (l : List Post) : Int → Int → Int → Prop := fun k p j => ∃ x ∈ l,x.kind = k ∧ x.prop = p ∧ x.item = j
theorem flew {g1 : G} {out : List Post} {i : Nat} {m : Post} (hi : g.fl[i]? = some m) :
  Flew g.has ({ g1 with fl := g.fl.eraseIdx i ++ out } : G).has (kinds out) m := by
 have hl := (List.getElem?_eq_some_iff.1 hi).1
 refine ⟨has_mem (List.mem_of_getElem? hi),?_,?_,?_⟩
 ·rintro k p j ⟨x,hx,h⟩
  rcases List.mem_append.1 hx with hx | hx
  ·exact .inl ⟨x,List.mem_of_mem_eraseIdx hx,h⟩
  ·exact .inr ⟨x,hx,h⟩
 ·rintro k p j ⟨x,hx,h1,h2,h3⟩ hn
  refine ⟨x,List.mem_append.2 (.inl ?_),h1,h2,h3⟩
  rw [List.mem_eraseIdx_iff_getElem?]
  obtain ⟨i',hi'⟩ := List.getElem?_of_mem hx
  refine ⟨i',?_,hi'⟩
  rintro rfl
  rw [hi] at hi'
  injection hi' with e
  subst e
  exact hn ⟨h1.symm,h2.symm,h3.symm⟩
 ·rintro k p j ⟨x,hx,h⟩
  exact ⟨x,List.mem_append.2 (.inr hx),h⟩
theorem sameP_setI (j : Int) (x : It) (l : List Post) : SameP g { g.setI j x with fl := l } := ⟨rfl,rfl,fun _ => rfl,rfl⟩
theorem setI_ne {j j' : Int} (x : It) (l : List Post) (h : j' ≠ j) : ({ g.setI j x with fl := l } : G).items j' = g.items j' := by simp [G.setI,h]
theorem setI_eq {j : Int} (x : It) (l : List Post) : ({ g.setI j x with fl := l } : G).items j = x := by simp [G.setI]
theorem kinds_nil {k p j : Int} : ¬ kinds [] k p j := by simp [kinds]
theorem kinds_one {x : Post} {k p j : Int} : kinds [x] k p j ↔ k = x.kind ∧ p = x.prop ∧ j = x.item := by simp [kinds,eq_comm]
theorem inv_asked (I : NGood g) {i : Nat} {m : Post} (hi : g.fl[i]? = some m) (hk : m.kind = 1) : Inv { (g.askedG m).1 with fl := g.fl.eraseIdx i ++ (g.askedG m).2.1 } ({ (g.askedG m).1 with fl := g.fl.eraseIdx i ++ (g.askedG m).2.1 } : G).has := by
 have hv := (I.route m (List.mem_of_getElem? hi)).ask hk
 unfold G.askedG
 split
 ·rename_i h
  exact inv_idle I.inv ⟨rfl,rfl,fun _ => rfl,rfl⟩ (fun _ _ _ => kinds_nil) (.inl ⟨hk,h⟩) (flew hi) (fun _ _ => rfl) rfl rfl rfl (fun _ => Iff.rfl) rfl
 ·rename_i h
  simp only [not_or] at h
  split
  ·exact inv_askNo I.inv (sameP_setI _ _ _) hk h.2.1 h.1 h.2.2 (fun _ _ _ => by rw [kinds_one]; rfl) (flew hi) (fun _ e => setI_ne _ _ e) (by rw [setI_eq]) (by rw [setI_eq]) (by rw [setI_eq]) (fun p => by rw [setI_eq,mem_addP]) (by rw [setI_eq])
  ·rename_i hver
   have hver' : m.version = (g.items m.item).ver := by simpa using hver
   split
   ·rename_i q hq
    exact inv_askWait I.inv (sameP_setI _ _ _) q (by rw [← hver']; exact hv) hk hq (fun e => h.2.1 (by rw [hq,e])) h.1 h.2.2 (fun _ _ _ => kinds_nil) (flew hi) (fun _ e => setI_ne _ _ e) (by rw [setI_eq]) (by rw [setI_eq]) (by rw [setI_eq]) (fun p => by rw [setI_eq]) (by rw [setI_eq])
   ·rename_i hq
    exact inv_askYes I.inv (sameP_setI _ _ _) (by rw [← hver']; exact hv) hk hq h.1 h.2.2 (fun _ _ _ => by rw [kinds_one]; rfl) (flew hi) (fun _ e => setI_ne _ _ e) (by rw [setI_eq]) (by rw [setI_eq]) (by rw [setI_eq]) (fun p => by rw [setI_eq]) (by rw [setI_eq])
theorem inv_committed (I : NGood g) {i : Nat} {m : Post} (hi : g.fl[i]? = some m) (hk : m.kind = 4) : Inv { (g.committedG m).1 with fl := g.fl.eraseIdx i ++ (g.committedG m).2.1 } ({ (g.committedG m).1 with fl := g.fl.eraseIdx i ++ (g.committedG m).2.1 } : G).has := by
 unfold G.committedG
 split
 ·rename_i h
  refine inv_commit I.inv (sameP_setI _ _ _) hk h ?_ (flew hi) (fun _ e => setI_ne _ _ e) (by rw [setI_eq]) (by rw [setI_eq]) (by rw [setI_eq]) (fun p => by rw [setI_eq,mem_thrAll,mem_addP]) (by rw [setI_eq])
  intro k p j
  simp only [kinds,List.mem_map]
  constructor
  ·rintro ⟨x,⟨p',hp',rfl⟩,h1,h2,h3⟩
   exact ⟨h1.symm,by rw [← h2]; exact hp',h3.symm⟩
  ·rintro ⟨rfl,h2,rfl⟩
   exact ⟨_,⟨p,h2,rfl⟩,rfl,rfl,rfl⟩
 ·rename_i h
  exact inv_idle I.inv ⟨rfl,rfl,fun _ => rfl,rfl⟩ (fun _ _ _ => kinds_nil) (.inr (.inr ⟨hk,h⟩)) (flew hi) (fun _ _ => rfl) rfl rfl rfl (fun _ => Iff.rfl) rfl
theorem inv_freed (I : NGood g) {i : Nat} {m : Post} (hi : g.fl[i]? = some m) (hk : m.kind = 5) : Inv { (g.freedG m).1 with fl := g.fl.eraseIdx i ++ (g.freedG m).2.1 } ({ (g.freedG m).1 with fl := g.fl.eraseIdx i ++ (g.freedG m).2.1 } : G).has := by
 unfold G.freedG
 split
 ·rename_i h
  split
  ·rename_i h2
   exact inv_freeLast I.inv (sameP_setI _ _ _) hk h h2 (fun _ _ _ => kinds_nil) (flew hi) (fun _ e => setI_ne _ _ e) (by rw [setI_eq]) (by rw [setI_eq]) (by rw [setI_eq]) (fun p => by rw [setI_eq,mem_addP]) (by rw [setI_eq])
  ·rename_i a l h2
   exact inv_freeNext I.inv (sameP_setI _ _ _) hk a l h h2 (fun _ _ _ => by rw [kinds_one]; rfl) (flew hi) (fun _ e => setI_ne _ _ e) (by rw [setI_eq]) (by rw [setI_eq]) (by rw [setI_eq]) (fun p => by rw [setI_eq,mem_addP]) (by rw [setI_eq])
 ·rename_i h
  exact inv_freeOther I.inv (sameP_setI _ _ _) hk h (fun _ _ _ => kinds_nil) (flew hi) (fun _ e => setI_ne _ _ e) (by rw [setI_eq]) (by rw [setI_eq]) (by rw [setI_eq]) (fun p => by rw [setI_eq,mem_addP]) (by rw [setI_eq])
theorem sameI_setP {p : Int} {x : Pr} (l : List Post) (d : List Int) (hx : x.claims = (g.props p).claims) : SameI g { g.setP p x with fl := l,dec := d } p := ⟨rfl,rfl,fun _ => rfl,fun q e => by simp [G.setP,e],by simp [G.setP,hx]⟩
theorem setP_eq {p : Int} {x : Pr} (l : List Post) (d : List Int) : ({ g.setP p x with fl := l,dec := d } : G).props p = x := by simp [G.setP]
theorem inv_granted (I : NGood g) {i : Nat} {m : Post} (hi : g.fl[i]? = some m) (hk : m.kind = 2) : Inv { (g.grantedG m).1 with fl := g.fl.eraseIdx i ++ (g.grantedG m).2.1 } ({ (g.grantedG m).1 with fl := g.fl.eraseIdx i ++ (g.grantedG m).2.1 } : G).has := by
 unfold G.grantedG
 split
 ·rename_i h
  split
  ·rename_i c hc
   exact inv_grantMore (p0 := m.prop) I.inv (sameI_setP _ _ rfl) (flew hi) c rfl hk h (by simp [G.cl,hc]) (by rw [setP_eq]; exact h.1) (by rw [setP_eq]) rfl (fun _ _ _ => by rw [kinds_one]; rfl)
  ·rename_i hc
   refine inv_grantLast (p0 := m.prop) I.inv (sameI_setP _ _ rfl) (flew hi) rfl hk h (by simpa using hc) (by rw [setP_eq]) (by rw [setP_eq]) rfl ?_
   intro k p j
   simp only [kinds,List.mem_map]
   constructor
   ·rintro ⟨x,⟨c,hc',rfl⟩,h1,h2,h3⟩
    exact ⟨h1.symm,h2.symm,by rw [← h3]; exact cl_of_mem hc'⟩
   ·rintro ⟨rfl,rfl,i',hi'⟩
    simp only [G.cl,Option.map_eq_some_iff] at hi'
    obtain ⟨c,hc',rfl⟩ := hi'
    exact ⟨_,⟨c,List.mem_of_getElem? hc',rfl⟩,rfl,rfl,rfl⟩
 ·rename_i h
  exact inv_idle I.inv ⟨rfl,rfl,fun _ => rfl,rfl⟩ (fun _ _ _ => kinds_nil) (.inr (.inl ⟨.inl hk,h⟩)) (flew hi) (fun _ _ => rfl) rfl rfl rfl (fun _ => Iff.rfl) rfl
theorem kinds_frees {p : Int} {n : Nat} {k q j : Int} : kinds (((g.props p).claims.take n).map (fun c => g.mFree p c.item)) k q j ↔ k = 5 ∧ q = p ∧ ∃ i,i < n ∧ g.cl p i j := by
 simp only [kinds,List.mem_map]
 constructor
 ·rintro ⟨x,⟨c,hc',rfl⟩,h1,h2,h3⟩
  obtain ⟨i,hi⟩ := List.getElem?_of_mem hc'
  rw [List.getElem?_take] at hi
  split at hi
  ·exact ⟨h1.symm,h2.symm,i,by assumption,by rw [← h3]; simp [G.cl,hi,G.mFree]⟩
  ·cases hi
 ·rintro ⟨rfl,rfl,i',hl,hi'⟩
  simp only [G.cl,Option.map_eq_some_iff] at hi'
  obtain ⟨c,hc',rfl⟩ := hi'
  exact ⟨_,⟨c,List.mem_of_getElem? (i:=i') (by rw [List.getElem?_take,if_pos hl]; exact hc'),rfl⟩,rfl,rfl,rfl⟩
theorem inv_refused (I : NGood g) {i : Nat} {m : Post} (hi : g.fl[i]? = some m) (hk : m.kind = 3) : Inv { (g.refusedG m).1 with fl := g.fl.eraseIdx i ++ (g.refusedG m).2.1 } ({ (g.refusedG m).1 with fl := g.fl.eraseIdx i ++ (g.refusedG m).2.1 } : G).has := by
 unfold G.refusedG
 split
 ·rename_i h
  exact inv_refuse (p0 := m.prop) I.inv (sameI_setP _ _ rfl) (flew hi) rfl hk h (by rw [setP_eq]) (by rw [setP_eq]) rfl (fun _ _ _ => kinds_frees)
 ·rename_i h
  exact inv_idle I.inv ⟨rfl,rfl,fun _ => rfl,rfl⟩ (fun _ _ _ => kinds_nil) (.inr (.inl ⟨.inr hk,h⟩)) (flew hi) (fun _ _ => rfl) rfl rfl rfl (fun _ => Iff.rfl) rfl
theorem inv_deliver (I : NGood g) {i : Nat} {m : Post} (hi : g.fl[i]? = some m) : Inv (g.deliverG i m) (g.deliverG i m).has := by
 obtain ⟨h1,h2,_⟩ := I.inv.mcl _ _ _ (has_mem (List.mem_of_getElem? hi))
 unfold G.deliverG G.takeG
 split
 ·exact inv_granted I hi (by assumption)
 ·split
  ·exact inv_refused I hi (by assumption)
  ·split
   ·exact inv_asked I hi (by assumption)
   ·split
    ·exact inv_committed I hi (by assumption)
    ·exact inv_freed I hi (by omega)
theorem inv_dropG (I : NGood g) {p : Int} (h : (g.props p).st = 1) : Inv (g.dropG p) (g.dropG p).has := by
 refine inv_drop (p0 := p) (new := kinds (((g.props p).claims.take ((g.props p).got + 1)).map (fun c => g.mFree p c.item))) I.inv (sameI_setP _ _ rfl) ?_ ?_ ?_ h (by simp [G.dropG,G.setP]) (by simp [G.dropG,G.setP]) rfl (fun _ _ _ => by rw [kinds_frees]; simp [Nat.lt_succ_iff])
 ·rintro k q j ⟨x,hx,h⟩
  rcases List.mem_append.1 hx with hx | hx
  ·exact .inl ⟨x,hx,h⟩
  ·exact .inr ⟨x,hx,h⟩
 ·rintro k q j ⟨x,hx,h⟩
  exact ⟨x,List.mem_append.2 (.inl hx),h⟩
 ·rintro k q j ⟨x,hx,h⟩
  exact ⟨x,List.mem_append.2 (.inr hx),h⟩
structure ClaimsOk (n : Nat) (l : List Clm) : Prop where
 len : 1 ≤ l.length ∧ l.length ≤ 64
 item : ∀ c ∈ l,0 ≤ c.item ∧ c.item < n ∧ 0 ≤ c.version
 srt : ∀ (i i' : Nat) (j j' : Int),(l[i]?.map (·.item)) = some j → (l[i']?.map (·.item)) = some j' → i < i' → j < j'
theorem inv_proposeG (I : NGood g) {place : Int} {l : List Clm} {c : Clm} (hl : ClaimsOk g.n l) (hc : l[0]? = some c) : Inv (g.proposeG place l c) (g.proposeG place l c).has := by
 refine inv_propose (p0 := g.np) (new := kinds [⟨1,place,g.site c.item,g.np,c.item,c.version⟩]) I.inv l c rfl hl.len.2 hc (fun c hc => ⟨(hl.item c hc).1,(hl.item c hc).2.1⟩) hl.srt rfl (by simp [G.proposeG]) (fun _ => rfl) (fun q e => by simp [G.proposeG,G.setP,e]) (by simp [G.proposeG,G.setP]) (by simp [G.proposeG,G.setP]) (by simp [G.proposeG,G.setP]) rfl ?_ ?_ ?_ (fun _ _ _ => by rw [kinds_one])
 ·rintro k q j ⟨x,hx,h⟩
  rcases List.mem_append.1 hx with hx | hx
  ·exact .inl ⟨x,hx,h⟩
  ·exact .inr ⟨x,hx,h⟩
 ·rintro k q j ⟨x,hx,h⟩
  exact ⟨x,List.mem_append.2 (.inl hx),h⟩
 ·rintro k q j ⟨x,hx,h⟩
  exact ⟨x,List.mem_append.2 (.inr hx),h⟩
theorem routed_keep {g' : G} {m : Post} (h : Routed g m) (hs : g'.site = g.site) (hh : g'.home m.prop = g.home m.prop) (hp : (g'.props m.prop).claims = (g.props m.prop).claims) : Routed g' m :=
 ⟨by rw [hs,hh]; exact h.dst,h.ver,by rw [hp]; exact h.ask⟩
theorem takeG_same (m : Post) : (g.takeG m).1.site = g.site ∧ (g.takeG m).1.home = g.home ∧ (g.takeG m).1.n = g.n ∧ (g.takeG m).1.np = g.np ∧ (g.takeG m).1.places = g.places ∧ (g.takeG m).1.fl = g.fl ∧ ∀ p,((g.takeG m).1.props p).claims = (g.props p).claims := by
 unfold G.takeG
 have hp : ∀ (p q : Int) (x : Pr),x.claims = (g.props p).claims → ((g.setP p x).props q).claims = (g.props q).claims := fun p q x hx => by
  by_cases e : q = p
  ·subst e; simp [G.setP,hx]
  ·simp [G.setP,e]
 split
 ·unfold G.grantedG
  split
  ·split
   ·exact ⟨rfl,rfl,rfl,rfl,rfl,rfl,fun q => hp _ q _ rfl⟩
   ·exact ⟨rfl,rfl,rfl,rfl,rfl,rfl,fun q => hp _ q _ rfl⟩
  ·exact ⟨rfl,rfl,rfl,rfl,rfl,rfl,fun _ => rfl⟩
 ·split
  ·unfold G.refusedG
   split
   ·exact ⟨rfl,rfl,rfl,rfl,rfl,rfl,fun q => hp _ q _ rfl⟩
   ·exact ⟨rfl,rfl,rfl,rfl,rfl,rfl,fun _ => rfl⟩
  ·split
   ·unfold G.askedG
    split
    ·exact ⟨rfl,rfl,rfl,rfl,rfl,rfl,fun _ => rfl⟩
    ·split
     ·exact ⟨rfl,rfl,rfl,rfl,rfl,rfl,fun _ => rfl⟩
     ·split <;> exact ⟨rfl,rfl,rfl,rfl,rfl,rfl,fun _ => rfl⟩
   ·split
    ·unfold G.committedG
     split <;> exact ⟨rfl,rfl,rfl,rfl,rfl,rfl,fun _ => rfl⟩
    ·unfold G.freedG
     split
     ·split <;> exact ⟨rfl,rfl,rfl,rfl,rfl,rfl,fun _ => rfl⟩
     ·exact ⟨rfl,rfl,rfl,rfl,rfl,rfl,fun _ => rfl⟩
theorem routed_grant (p j : Int) : Routed g (g.mGrant p j) := ⟨⟨fun _ => ⟨rfl,rfl⟩,fun h => absurd rfl h⟩,fun _ => rfl,fun h => by simp [G.mGrant] at h⟩
theorem routed_refuse (p j : Int) : Routed g (g.mRefuse p j) := ⟨⟨fun _ => ⟨rfl,rfl⟩,fun _ h => absurd rfl h⟩,fun _ => rfl,fun h => by simp [G.mRefuse] at h⟩
theorem routed_commit (p j : Int) : Routed g (g.mCommit p j) := ⟨⟨fun h => by simp [G.mCommit] at h,fun _ _ => ⟨rfl,rfl⟩⟩,fun _ => rfl,fun h => by simp [G.mCommit] at h⟩
theorem routed_free (p j : Int) : Routed g (g.mFree p j) := ⟨⟨fun h => by simp [G.mFree] at h,fun _ _ => ⟨rfl,rfl⟩⟩,fun _ => rfl,fun h => by simp [G.mFree] at h⟩
theorem routed_ask {p : Int} {c : Clm} (h : c ∈ (g.props p).claims) : Routed g (g.mAsk p c) := ⟨⟨fun h => by simp [G.mAsk] at h,fun _ _ => ⟨rfl,rfl⟩⟩,fun h => by simp [G.mAsk] at h,fun _ => h⟩
theorem takeG_routed (m : Post) : ∀ x ∈ (g.takeG m).2.1,Routed g x := by
 unfold G.takeG
 split
 ·unfold G.grantedG
  split
  ·split
   ·rename_i c hc
    intro x hx
    rw [List.mem_singleton.1 hx]
    exact routed_ask (List.mem_of_getElem? hc)
   ·intro x hx
    simp only [List.mem_map] at hx
    obtain ⟨c,_,rfl⟩ := hx
    exact routed_commit _ _
  ·simp
 ·split
  ·unfold G.refusedG
   split
   ·intro x hx
    simp only [List.mem_map] at hx
    obtain ⟨c,_,rfl⟩ := hx
    exact routed_free _ _
   ·simp
  ·split
   ·unfold G.askedG
    split
    ·simp
    ·split
     ·intro x hx; rw [List.mem_singleton.1 hx]; exact routed_refuse _ _
     ·split
      ·simp
      ·intro x hx; rw [List.mem_singleton.1 hx]; exact routed_grant _ _
   ·split
    ·unfold G.committedG
     split
     ·intro x hx
      simp only [List.mem_map] at hx
      obtain ⟨c,_,rfl⟩ := hx
      exact routed_refuse _ _
     ·simp
    ·unfold G.freedG
     split
     ·split
      ·simp
      ·intro x hx; rw [List.mem_singleton.1 hx]; exact routed_grant _ _
     ·simp
theorem NGood.deliver (I : NGood g) {i : Nat} {m : Post} (hi : g.fl[i]? = some m) : NGood (g.deliverG i m) := by
 refine ⟨inv_deliver I hi,fun x hx => ?_,fun p c hc => I.clv p c (by rw [← (takeG_same (g := g) m).2.2.2.2.2.2 p]; exact hc)⟩
 obtain ⟨h1,h2,_,_,_,_,h3⟩ := takeG_same (g := g) m
 have : Routed g x := by
  rcases List.mem_append.1 hx with hx | hx
  ·exact I.route x (List.mem_of_mem_eraseIdx hx)
  ·exact takeG_routed m x hx
 exact routed_keep this h1 (by show (g.takeG m).1.home _ = _; rw [h2]) (h3 _)
theorem NGood.drop (I : NGood g) {p : Int} (h : (g.props p).st = 1) : NGood (g.dropG p) := by
 refine ⟨inv_dropG I h,fun x hx => ?_,fun q c hc => I.clv q c (by by_cases e : q = p <;> simp [G.dropG,G.setP,e] at hc ⊢ <;> exact hc)⟩
 have : Routed g x := by
  rcases List.mem_append.1 hx with hx | hx
  ·exact I.route x hx
  ·simp only [List.mem_map] at hx
   obtain ⟨c,_,rfl⟩ := hx
   exact routed_free _ _
 refine routed_keep this rfl rfl ?_
 by_cases e : x.prop = p
 ·rw [e]; simp [G.dropG,G.setP]
 ·simp [G.dropG,G.setP,e]
theorem NGood.propose (I : NGood g) {place : Int} {l : List Clm} {c : Clm} (hl : ClaimsOk g.n l) (hc : l[0]? = some c) : NGood (g.proposeG place l c) := by
 refine ⟨inv_proposeG I hl hc,fun x hx => ?_,fun q c hc => by
  by_cases e : q = g.np
  ·simp [G.proposeG,G.setP,e] at hc; exact (hl.item c hc).2.2
  ·simp [G.proposeG,G.setP,e] at hc; exact I.clv q c hc⟩
 rcases List.mem_append.1 hx with hx | hx
 ·have hne : x.prop ≠ g.np := by
   obtain ⟨_,_,i,_,hi⟩ := I.inv.mcl _ _ _ (has_mem hx)
   have := I.inv.rng _ _ _ hi
   omega
  exact routed_keep (I.route x hx) rfl (by simp [G.proposeG,hne]) (by simp [G.proposeG,G.setP,hne])
 ·rw [List.mem_singleton.1 hx]
  refine ⟨⟨fun h => by simp at h,fun _ _ => ⟨by simp [G.proposeG],rfl⟩⟩,fun h => by simp at h,fun _ => ?_⟩
  simp only [G.proposeG,G.setP,if_true]
  exact List.mem_of_getElem? hc
end
end Go.Ng
namespace Go.Ng
section
variable {g : G} {ms : Int → Int → Int → Prop}
theorem moment (I : Inv g ms) {p : Int} (h : p ∈ g.dec) : 0 ≤ p ∧ p < g.np ∧ ∀ c ∈ (g.props p).claims,(g.items c.item).hold = some p ∨ p ∈ (g.items c.item).hist := by
 have hs := (I.e1 p).1 h
 have hne : (g.props p).claims ≠ [] := fun e => by have := (I.zero p).2 e; omega
 have hr : 0 ≤ p ∧ p < g.np := by
  cases hc : (g.props p).claims with
  | nil => exact absurd hc hne
  | cons c t => have := I.rng p 0 c.item (by simp [G.cl,hc]); omega
 refine ⟨hr.1,hr.2,fun c hc => ?_⟩
 obtain ⟨i,hi⟩ := cl_of_mem hc
 exact I.c4 p i c.item hi (by rw [I.got2 _ hs]; exact cl_lt hi) (.inr hs)
def Still (ms : Int → Int → Int → Prop) : Prop := ∀ k p j,¬ ms k p j
theorem hist_rng (I : Inv g ms) {p j : Int} (h : p ∈ (g.items j).hist) : 0 ≤ p ∧ p < g.np ∧ (g.props p).st = 2 := by
 have hs := I.ch _ _ h
 obtain ⟨h1,h2,_⟩ := moment I ((I.e1 p).2 hs)
 exact ⟨h1,h2,hs⟩
end
end Go.Ng
namespace Go.Ng
def sumI : Nat → (Int → Nat) → Nat
 | 0,_ => 0
 | n + 1,f => sumI n f + f n
theorem sumI_congr {n : Nat} {f f' : Int → Nat} (h : ∀ i : Int,0 ≤ i → i < n → f' i = f i) : sumI n f' = sumI n f := by
 induction n with
 | zero => rfl
 | succ n ih => rw [sumI,sumI,ih (fun i h0 h1 => h i h0 (by omega)),h n (by omega) (by omega)]
theorem sumI_upd {n : Nat} {f f' : Int → Nat} {j : Int} (h0 : 0 ≤ j) (hn : j < n) (h : ∀ i,i ≠ j → f' i = f i) : sumI n f' + f j = sumI n f + f' j := by
 induction n with
 | zero => omega
 | succ n ih =>
  rw [sumI,sumI]
  by_cases e : j = n
  ·subst e
   rw [sumI_congr (f := f) (f' := f') (fun i _ hi => h i (by omega))]
   omega
  ·have := ih (by omega)
   have := h n (fun e' => e e'.symm)
   omega
structure Wt where
 ask : Nat
 grant : Nat
 refuse : Nat
 commit : Nat
 free : Nat
 wait : Nat
 dl : Nat
 prop : Nat → Nat → Nat
structure Wt.Ok (W : Wt) : Prop where
 a1 : W.refuse + W.dl ≤ W.ask
 a2 : W.wait + W.dl ≤ W.ask
 a3 : W.grant + W.dl ≤ W.ask
 q1 : W.refuse ≤ W.wait
 q2 : W.grant ≤ W.wait
 i1 : W.dl ≤ W.grant
 i2 : W.dl ≤ W.refuse
 i3 : W.dl ≤ W.commit
 i4 : W.dl ≤ W.free
 g1 : ∀ k g,g + 1 < k → W.ask + W.prop k (g + 1) + W.dl ≤ W.grant + W.prop k g
 g2 : ∀ k g,g + 1 = k → k * W.commit + W.dl ≤ W.grant + W.prop k g
 r : ∀ k g,g < k → g * W.free + W.dl ≤ W.refuse + W.prop k g
 d : ∀ k g,g < k → (g + 1) * W.free ≤ W.prop k g
def Wt.of (W : Wt) (m : Post) : Nat := if m.kind = 2 then W.grant else if m.kind = 3 then W.refuse else if m.kind = 1 then W.ask else if m.kind = 4 then W.commit else W.free
def Wt.fl (W : Wt) (l : List Post) : Nat := (l.map W.of).sum
def Wt.pr (W : Wt) (x : Pr) : Nat := if x.st = 1 then W.prop x.claims.length x.got else 0
def Wt.all (W : Wt) (g : G) : Nat := W.fl g.fl + sumI g.np (fun p => W.pr (g.props p)) + sumI g.n (fun j => W.wait * (g.items j).queue.length)
theorem Wt.fl_append (W : Wt) (a b : List Post) : W.fl (a ++ b) = W.fl a + W.fl b := by simp [Wt.fl]
theorem Wt.fl_erase (W : Wt) : ∀ (l : List Post) (i : Nat) (m : Post),l[i]? = some m → W.fl l = W.of m + W.fl (l.eraseIdx i)
 | [],i,m,h => by simp at h
 | x :: l,0,m,h => by simp at h; subst h; simp [Wt.fl]
 | x :: l,i + 1,m,h => by
  have := W.fl_erase l i m (by simpa using h)
  simp only [Wt.fl,List.map_cons,List.sum_cons,List.eraseIdx_cons_succ] at *
  omega
theorem Wt.fl_map (W : Wt) {α : Type} (f : α → Post) (n : Nat) : ∀ (l : List α),(∀ x ∈ l,W.of (f x) = n) → W.fl (l.map f) = l.length * n
 | [],_ => by simp [Wt.fl]
 | a :: l,h => by
  have := W.fl_map f n l (fun x hx => h x (by simp [hx]))
  simp only [Wt.fl,List.map_cons,List.sum_cons,List.length_cons,Nat.succ_mul] at *
  rw [this,h a (by simp)]; omega
section
variable {g : G} {W : Wt}
theorem wt_item {g' : G} {m : Post} (h0 : 0 ≤ m.item) (hn : m.item < g.n) (s1 : g'.np = g.np) (s2 : g'.n = g.n) (s3 : ∀ p,g'.props p = g.props p) (s4 : ∀ j,j ≠ m.item → g'.items j = g.items j) :
  W.all g' + W.fl g.fl + W.wait * (g.items m.item).queue.length = W.all g + W.fl g'.fl + W.wait * (g'.items m.item).queue.length := by
 have h1 := sumI_upd (n:=g.n) (f := fun j => W.wait * (g.items j).queue.length) (f' := fun j => W.wait * (g'.items j).queue.length) h0 hn (fun i e => by simp [s4 i e])
 have h2 : sumI g.np (fun p => W.pr (g'.props p)) = sumI g.np (fun p => W.pr (g.props p)) := sumI_congr (fun i _ _ => by rw [s3])
 simp only [Wt.all,s1,s2,h2]
 omega
theorem wt_prop {g' : G} {p : Int} (h0 : 0 ≤ p) (hn : p < g.np) (s1 : g'.np = g.np) (s2 : g'.n = g.n) (s3 : ∀ j,g'.items j = g.items j) (s4 : ∀ q,q ≠ p → g'.props q = g.props q) :
  W.all g' + W.fl g.fl + W.pr (g.props p) = W.all g + W.fl g'.fl + W.pr (g'.props p) := by
 have h1 := sumI_upd (n:=g.np) (f := fun p => W.pr (g.props p)) (f' := fun p => W.pr (g'.props p)) h0 hn (fun i e => by simp [s4 i e])
 have h2 : sumI g.n (fun j => W.wait * (g'.items j).queue.length) = sumI g.n (fun j => W.wait * (g.items j).queue.length) := sumI_congr (fun i _ _ => by rw [s3])
 simp only [Wt.all,s1,s2,h2]
 omega
theorem wt_deliver (ok : W.Ok) (I : NGood g) {i : Nat} {m : Post} (hi : g.fl[i]? = some m) : W.all (g.deliverG i m) + W.dl ≤ W.all g := by
 have hmem := List.mem_of_getElem? hi
 obtain ⟨k1,k2,c,_,hc⟩ := I.inv.mcl _ _ _ (has_mem hmem)
 obtain ⟨p0,pn,j0,jn⟩ := I.inv.rng _ _ _ hc
 have he := W.fl_erase g.fl i m hi
 have idle : ∀ g' : G,g' = { g with fl := g.fl.eraseIdx i ++ [] } → W.all g' + W.dl ≤ W.all g := by
  intro g' e
  subst e
  have hd : W.dl ≤ W.of m := by
   have := ok.a1; have := ok.i1; have := ok.i2; have := ok.i3; have := ok.i4
   unfold Wt.of; split
   ·omega
   ·split
    ·omega
    ·split
     ·omega
     ·split <;> omega
  simp only [Wt.all,List.append_nil]
  omega
 unfold G.deliverG G.takeG
 split
 ·rename_i hk
  have hof : W.of m = W.grant := by simp [Wt.of,hk]
  unfold G.grantedG
  split
  ·rename_i ha
   obtain ⟨hs,hcl⟩ := at_cl ha
   have hlt := cl_lt hcl
   have hpr : W.pr (g.props m.prop) = W.prop (g.props m.prop).claims.length (g.props m.prop).got := by simp [Wt.pr,hs]
   split
   ·rename_i c hc
    have h2 : (g.props m.prop).got + 1 < (g.props m.prop).claims.length := (List.getElem?_eq_some_iff.1 hc).1
    have h1 := wt_prop (W := W) (g := g) (g' := { g.setP m.prop { g.props m.prop with got := (g.props m.prop).got + 1 } with fl := g.fl.eraseIdx i ++ [g.mAsk m.prop c] }) p0 pn rfl rfl (fun _ => rfl) (fun q e => by simp [G.setP,e])
    rw [Wt.fl_append] at h1
    have h3 : W.fl [g.mAsk m.prop c] = W.ask := by simp [Wt.fl,Wt.of,G.mAsk]
    have h4 : W.pr (({ g.setP m.prop { g.props m.prop with got := (g.props m.prop).got + 1 } with fl := g.fl.eraseIdx i ++ [g.mAsk m.prop c] } : G).props m.prop) = W.prop (g.props m.prop).claims.length ((g.props m.prop).got + 1) := by simp [G.setP,Wt.pr,hs]
    have := ok.g1 _ _ h2
    rw [h4] at h1
    simp only at h1 ⊢
    omega
   ·rename_i hc
    have h2 : (g.props m.prop).got + 1 = (g.props m.prop).claims.length := by simp at hc; omega
    have h1 := wt_prop (W := W) (g := g) (g' := { g.setP m.prop { g.props m.prop with got := (g.props m.prop).got + 1,st := 2 } with dec := g.dec ++ [m.prop],fl := g.fl.eraseIdx i ++ (g.props m.prop).claims.map (fun c => g.mCommit m.prop c.item) }) p0 pn rfl rfl (fun _ => rfl) (fun q e => by simp [G.setP,e])
    rw [Wt.fl_append,W.fl_map _ W.commit _ (fun _ _ => by simp [Wt.of,G.mCommit])] at h1
    have h4 : W.pr (({ g.setP m.prop { g.props m.prop with got := (g.props m.prop).got + 1,st := 2 } with dec := g.dec ++ [m.prop],fl := g.fl.eraseIdx i ++ (g.props m.prop).claims.map (fun c => g.mCommit m.prop c.item) } : G).props m.prop) = 0 := by simp [G.setP,Wt.pr]
    have := ok.g2 _ _ h2
    rw [h4] at h1
    simp only at h1 ⊢
    omega
  ·exact idle _ rfl
 ·split
  ·rename_i hk
   have hof : W.of m = W.refuse := by simp [Wt.of,hk]
   unfold G.refusedG
   split
   ·rename_i ha
    obtain ⟨hs,hcl⟩ := at_cl ha
    have hlt := cl_lt hcl
    have hpr : W.pr (g.props m.prop) = W.prop (g.props m.prop).claims.length (g.props m.prop).got := by simp [Wt.pr,hs]
    have h1 := wt_prop (W := W) (g := g) (g' := { g.setP m.prop { g.props m.prop with st := 3 } with fl := g.fl.eraseIdx i ++ ((g.props m.prop).claims.take (g.props m.prop).got).map (fun c => g.mFree m.prop c.item) }) p0 pn rfl rfl (fun _ => rfl) (fun q e => by simp [G.setP,e])
    rw [Wt.fl_append,W.fl_map _ W.free _ (fun _ _ => by simp [Wt.of,G.mFree]),List.length_take,Nat.min_eq_left (by omega)] at h1
    have h4 : W.pr (({ g.setP m.prop { g.props m.prop with st := 3 } with fl := g.fl.eraseIdx i ++ ((g.props m.prop).claims.take (g.props m.prop).got).map (fun c => g.mFree m.prop c.item) } : G).props m.prop) = 0 := by simp [G.setP,Wt.pr]
    have := ok.r _ _ hlt
    rw [h4] at h1
    simp only at h1 ⊢
    omega
   ·exact idle _ rfl
  ·split
   ·rename_i hk
    have hof : W.of m = W.ask := by simp [Wt.of,hk]
    have := ok.a1; have := ok.a2; have := ok.a3
    unfold G.askedG
    split
    ·exact idle _ rfl
    ·split
     ·have h1 := wt_item (W := W) (g := g) (m := m) (g' := { g.setI m.item { g.items m.item with thr := addP m.prop (g.items m.item).thr } with fl := g.fl.eraseIdx i ++ [g.mRefuse m.prop m.item] }) j0 jn rfl rfl (fun _ => rfl) (fun j e => by simp [G.setI,e])
      rw [Wt.fl_append] at h1
      have h3 : W.fl [g.mRefuse m.prop m.item] = W.refuse := by simp [Wt.fl,Wt.of,G.mRefuse]
      simp only [G.setI,if_true] at h1 ⊢
      omega
     ·split
      ·have h1 := wt_item (W := W) (g := g) (m := m) (g' := { g.setI m.item { g.items m.item with queue := (g.items m.item).queue ++ [m.prop] } with fl := g.fl.eraseIdx i ++ [] }) j0 jn rfl rfl (fun _ => rfl) (fun j e => by simp [G.setI,e])
       rw [Wt.fl_append] at h1
       have h3 : W.fl [] = 0 := by simp [Wt.fl]
       simp only [G.setI,if_true,List.length_append,List.length_singleton,Nat.mul_add,Nat.mul_one] at h1 ⊢
       omega
      ·have h1 := wt_item (W := W) (g := g) (m := m) (g' := { g.setI m.item { g.items m.item with hold := some m.prop } with fl := g.fl.eraseIdx i ++ [g.mGrant m.prop m.item] }) j0 jn rfl rfl (fun _ => rfl) (fun j e => by simp [G.setI,e])
       rw [Wt.fl_append] at h1
       have h3 : W.fl [g.mGrant m.prop m.item] = W.grant := by simp [Wt.fl,Wt.of,G.mGrant]
       simp only [G.setI,if_true] at h1 ⊢
       omega
   ·split
    ·rename_i hk
     have hof : W.of m = W.commit := by simp [Wt.of,hk]
     have := ok.q1; have := ok.i3
     unfold G.committedG
     split
     ·have h1 := wt_item (W := W) (g := g) (m := m) (g' := { g.setI m.item ⟨none,[],(g.items m.item).ver + 1,thrAll (g.items m.item).queue (addP m.prop (g.items m.item).thr),(g.items m.item).hist ++ [m.prop]⟩ with fl := g.fl.eraseIdx i ++ (g.items m.item).queue.map (fun p => g.mRefuse p m.item) }) j0 jn rfl rfl (fun _ => rfl) (fun j e => by simp [G.setI,e])
      rw [Wt.fl_append,W.fl_map _ W.refuse _ (fun _ _ => by simp [Wt.of,G.mRefuse])] at h1
      have h5 := Nat.mul_le_mul_left (g.items m.item).queue.length ok.q1
      rw [Nat.mul_comm _ W.wait] at h5
      simp only [G.setI,if_true,List.length_nil,Nat.mul_zero] at h1 ⊢
      omega
     ·exact idle _ rfl
    ·rename_i a b c d
     have hof : W.of m = W.free := by simp [Wt.of,a,b,c,d]
     have := ok.q2; have := ok.i4
     unfold G.freedG
     split
     ·split
      ·have h1 := wt_item (W := W) (g := g) (m := m) (g' := { g.setI m.item { g.items m.item with hold := none,thr := addP m.prop (g.items m.item).thr,queue := [] } with fl := g.fl.eraseIdx i ++ [] }) j0 jn rfl rfl (fun _ => rfl) (fun j e => by simp [G.setI,e])
       rw [Wt.fl_append] at h1
       have h3 : W.fl [] = 0 := by simp [Wt.fl]
       simp only [G.setI,if_true,List.length_nil,Nat.mul_zero] at h1 ⊢
       omega
      ·rename_i a l hal
       have h1 := wt_item (W := W) (g := g) (m := m) (g' := { g.setI m.item { g.items m.item with hold := some a,thr := addP m.prop (g.items m.item).thr,queue := (a :: l).filter (· ≠ a) } with fl := g.fl.eraseIdx i ++ [g.mGrant a m.item] }) j0 jn rfl rfl (fun _ => rfl) (fun j e => by simp [G.setI,e])
       rw [Wt.fl_append] at h1
       have h3 : W.fl [g.mGrant a m.item] = W.grant := by simp [Wt.fl,Wt.of,G.mGrant]
       have h5 : ((a :: l).filter (· ≠ a)).length + 1 ≤ (g.items m.item).queue.length := by
        have h6 : (a :: l).length ≤ (g.items m.item).queue.length := by rw [← hal]; exact List.length_filter_le _ _
        have h7 : ((a :: l).filter (· ≠ a)).length ≤ l.length := by
         rw [List.filter_cons_of_neg (by simp)]; exact List.length_filter_le _ _
        simp only [List.length_cons] at h6
        omega
       have h6 := Nat.mul_le_mul_left W.wait h5
       rw [Nat.mul_add,Nat.mul_one] at h6
       simp only [G.setI,if_true] at h1 ⊢
       omega
     ·have h1 := wt_item (W := W) (g := g) (m := m) (g' := { g.setI m.item { g.items m.item with thr := addP m.prop (g.items m.item).thr,queue := (g.items m.item).queue.filter (· ≠ m.prop) } with fl := g.fl.eraseIdx i ++ [] }) j0 jn rfl rfl (fun _ => rfl) (fun j e => by simp [G.setI,e])
      rw [Wt.fl_append] at h1
      have h3 : W.fl [] = 0 := by simp [Wt.fl]
      have h6 := Nat.mul_le_mul_left W.wait (List.length_filter_le (fun x => decide (x ≠ m.prop)) (g.items m.item).queue)
      simp only [G.setI,if_true] at h1 ⊢
      omega
theorem wt_drop (ok : W.Ok) (I : NGood g) {p : Int} (h : (g.props p).st = 1) : W.all (g.dropG p) ≤ W.all g := by
 have hlt := I.inv.got1 p (.inl h)
 obtain ⟨j,hj⟩ := cl_some hlt
 obtain ⟨p0,pn,_,_⟩ := I.inv.rng _ _ _ hj
 have h1 := wt_prop (W := W) (g := g) (g' := g.dropG p) p0 pn rfl rfl (fun _ => rfl) (fun q e => by simp [G.dropG,G.setP,e])
 have h2 : W.fl (g.dropG p).fl = W.fl g.fl + ((g.props p).got + 1) * W.free := by
  rw [G.dropG,Wt.fl_append,W.fl_map _ W.free _ (fun _ _ => by simp [Wt.of,G.mFree]),List.length_take,Nat.min_eq_left (by omega)]
 have h3 : W.pr ((g.dropG p).props p) = 0 := by simp [G.dropG,G.setP,Wt.pr]
 have h4 : W.pr (g.props p) = W.prop (g.props p).claims.length (g.props p).got := by simp [Wt.pr,h]
 have := ok.d _ _ hlt
 omega
theorem wt_propose {place : Int} {l : List Clm} {c : Clm} : W.all (g.proposeG place l c) = W.all g + W.ask + W.prop l.length 0 := by
 have h1 : sumI (g.np + 1) (fun p => W.pr ((g.proposeG place l c).props p)) = sumI g.np (fun p => W.pr (g.props p)) + W.prop l.length 0 := by
  rw [sumI,sumI_congr (f := fun p => W.pr (g.props p)) (fun i _ hi => by simp [G.proposeG,G.setP,show i ≠ g.np by omega])]
  simp [G.proposeG,G.setP,Wt.pr]
 have h2 : W.fl (g.proposeG place l c).fl = W.fl g.fl + W.ask := by
  rw [G.proposeG,Wt.fl_append]; simp [Wt.fl,Wt.of]
 have h3 : (g.proposeG place l c).np = g.np + 1 := rfl
 have h4 : (g.proposeG place l c).n = g.n := rfl
 have h5 : (g.proposeG place l c).items = g.items := rfl
 simp only [Wt.all,h1,h2,h3,h4,h5]
 omega
end
def W1 : Wt := ⟨1,1,1,1,1,1,0,fun k _ => k⟩
theorem W1_ok : W1.Ok := by constructor <;> simp [W1] <;> omega
def W2 : Wt := ⟨3,1,1,1,1,2,1,fun k g => k + 3 * (k - 1 - g)⟩
theorem W2_ok : W2.Ok := by constructor <;> simp [W2] <;> omega
theorem fl_le (g : G) : g.fl.length ≤ W1.all g := by
 have : W1.fl g.fl = g.fl.length := by
  have : ∀ l : List Post,W1.fl l = l.length := by
   intro l
   induction l with
   | nil => rfl
   | cons a l ih => simp only [Wt.fl,List.map_cons,List.sum_cons,List.length_cons] at *; rw [ih]; simp [Wt.of,W1]; omega
  exact this _
 simp only [Wt.all]; omega
theorem fl_le2 (g : G) : g.fl.length ≤ W2.all g := by
 have : g.fl.length ≤ W2.fl g.fl := by
  have : ∀ l : List Post,l.length ≤ W2.fl l := by
   intro l
   induction l with
   | nil => simp
   | cons a l ih =>
    simp only [Wt.fl,List.map_cons,List.sum_cons,List.length_cons] at *
    have : 1 ≤ W2.of a := by simp only [Wt.of,W2]; split <;> (try split) <;> (try split) <;> (try split) <;> omega
    omega
  exact this _
 simp only [Wt.all]; omega
end Go.Ng
namespace Go.Proofs.Ytclkokkppgchfaa
open Go.Ng
structure ItAbs (home : Int → Int) (it : ItemM) (x : It) : Prop where
 hold : x.hold = if it.held = true then some it.lk.prop else none
 queue : x.queue = it.queue.map (·.prop)
 ver : x.ver = it.version
 thr : x.thr = it.through
 place : ∀ a ∈ it.queue,a.place = home a.prop
structure PlAbs (g : G) (i : Nat) (P : PlaceM) : Prop where
 no : P.no = i
 slen : P.sites.length = g.n
 sites : ∀ j : Nat,j < g.n → P.sites[j]? = some (g.site j)
 ilen : P.items.length = g.n
 items : ∀ j : Nat,j < g.n → g.site j = i → ∃ it,P.items[j]? = some (some it) ∧ ItAbs g.home it (g.items j)
 foreign : ∀ (j : Nat) it,P.items[j]? = some (some it) → g.site j = i
 props : ∀ (n : Int) (x : PropM),(n,x) ∈ P.props → 0 ≤ n ∧ n < g.np ∧ g.home n = i ∧ x.claims = (g.props n).claims ∧ x.state = (g.props n).st ∧ x.granted = (g.props n).got
 uniq : ∀ (n : Int) (x y : PropM),(n,x) ∈ P.props → (n,y) ∈ P.props → x = y
 has : ∀ n : Int,0 ≤ n → n < g.np → g.home n = i → ∃ x,(n,x) ∈ P.props
 plen : P.props.length ≤ g.np
 out : P.out = []
 came : P.came = []
theorem addT_eq : addT = addP := rfl
section
variable {g g1 : G} {i : Nat} {P : PlaceM} {home : Int → Int} {it : ItemM} {x : It}
theorem ItAbs.holds (h : ItAbs home it x) (p : Int) : (it.held = true ∧ it.lk.prop = p) ↔ x.hold = some p := by
 rw [h.hold]; cases it.held <;> simp
theorem ItAbs.waits (h : ItAbs home it x) (p : Int) : it.queue.any (isProp p) = true ↔ p ∈ x.queue := by
 rw [h.queue]; simp [isProp,List.any_eq_true]
theorem ItAbs.held (h : ItAbs home it x) : it.held = true ↔ ∃ q,x.hold = some q := by
 rw [h.hold]; cases it.held <;> simp
theorem mem_find {l : List (Int × PropM)} (hu : ∀ n x y,(n,x) ∈ l → (n,y) ∈ l → x = y) {n : Int} {x : PropM} (h : (n,x) ∈ l) : find l n = some x := by
 cases hf : find l n with
 | some y => rw [hu n y x (find_mem hf) h]
 | none =>
  simp only [find,Option.map_eq_none_iff,List.find?_eq_none] at hf
  exact absurd (by simp) (hf _ h)
theorem PlAbs.site (h : PlAbs g i P) {j : Int} (h0 : 0 ≤ j) (hn : j < g.n) : P.site j = g.site j := by
 obtain ⟨k,rfl⟩ := Int.eq_ofNat_of_zero_le h0
 have := h.sites k (by omega)
 simp [PlaceM.site,List.getD_eq_getElem?_getD,this]
theorem PlAbs.other (h : PlAbs g i P) (hn : g1.n = g.n) (hnp : g1.np = g.np) (hs : g1.site = g.site) (hh : g1.home = g.home)
  (hI : ∀ j : Nat,j < g.n → g.site j = i → ∃ y,g1.items j = { g.items j with hist := y }) (hP : ∀ p : Int,0 ≤ p → p < g.np → g.home p = i → g1.props p = g.props p) : PlAbs g1 i P := by
 refine ⟨h.no,by rw [hn]; exact h.slen,by rw [hn,hs]; exact h.sites,by rw [hn]; exact h.ilen,?_,by rw [hs]; exact h.foreign,?_,h.uniq,by rw [hnp,hh]; exact h.has,by rw [hnp]; exact h.plen,h.out,h.came⟩
 ·intro j hj hsj
  rw [hs] at hsj
  rw [hn] at hj
  obtain ⟨it,h1,h2⟩ := h.items j hj hsj
  obtain ⟨y,hy⟩ := hI j hj hsj
  exact ⟨it,h1,by rw [hy,hh]; exact ⟨h2.hold,h2.queue,h2.ver,h2.thr,h2.place⟩⟩
 ·intro n x hx
  obtain ⟨h1,h2,h3,h4⟩ := h.props n x hx
  rw [hnp,hh,hP n h1 h2 h3]
  exact ⟨h1,h2,h3,h4⟩
theorem PlAbs.set_item (h : PlAbs g i P) {j : Nat} (hj : j < g.n) (hsj : g.site j = i) {it' : ItemM} {x' : It} (ha : ItAbs g.home it' x')
  (P' : PlaceM) (hP : P' = { P with items := P.items.set j (some it'),out := [],came := [] }) : PlAbs (g.setI j x') i P' := by
 subst hP
 have hil : j < P.items.length := by rw [h.ilen]; exact hj
 refine ⟨h.no,h.slen,h.sites,by simp [h.ilen,G.setI],?_,?_,h.props,h.uniq,h.has,h.plen,rfl,rfl⟩
 ·intro k hk hsk
  simp only [List.getElem?_set]
  by_cases e : j = k
  ·subst e
   rw [if_pos rfl,if_pos hil]
   exact ⟨it',rfl,by simp [G.setI]; exact ha⟩
  ·rw [if_neg e]
   obtain ⟨it,h1,h2⟩ := h.items k hk hsk
   exact ⟨it,h1,by simp only [G.setI]; rw [if_neg (by omega)]; exact h2⟩
 ·intro k y hy
  simp only [List.getElem?_set] at hy
  by_cases e : j = k
  ·subst e; exact hsj
  ·rw [if_neg e] at hy; exact h.foreign k y hy
theorem PlAbs.set_prop (h : PlAbs g i P) {n : Int} {x x' : PropM} {y : Pr} {d : List Int} (hx : (n,x) ∈ P.props)
  (hc : x'.claims = y.claims) (hst : x'.state = y.st) (hg : x'.granted = y.got) (P' : PlaceM) (hP : P' = { P with props := upd P.props n x',out := [],came := [] }) : PlAbs { g.setP n y with dec := d } i P' := by
 subst hP
 refine ⟨h.no,h.slen,h.sites,h.ilen,h.items,h.foreign,?_,?_,?_,by simp [upd,h.plen,G.setP],rfl,rfl⟩
 ·intro m z hz
  rcases upd_mem hz with ⟨rfl,rfl⟩ | ⟨hm,hz⟩
  ·obtain ⟨h1,h2,h3,_⟩ := h.props _ _ hx
   simp only [G.setP,if_true]
   exact ⟨h1,h2,h3,hc,hst,hg⟩
  ·simp only [G.setP,if_neg hm]
   exact h.props m z hz
 ·intro m z z' hy hz
  rcases upd_mem hy with ⟨rfl,rfl⟩ | ⟨hm,hy⟩
  ·rcases upd_mem hz with ⟨_,rfl⟩ | ⟨hm,_⟩
   ·rfl
   ·exact absurd rfl hm
  ·rcases upd_mem hz with ⟨rfl,rfl⟩ | ⟨_,hz⟩
   ·exact absurd rfl hm
   ·exact h.uniq m z z' hy hz
 ·intro m h0 h1 h2
  obtain ⟨z,hz⟩ := h.has m h0 h1 h2
  by_cases e : m = n
  ·subst e
   exact ⟨x',List.mem_map.2 ⟨_,hx,by simp⟩⟩
  ·exact ⟨z,List.mem_map.2 ⟨_,hz,by simp [e]⟩⟩
theorem commitM_out (n : Int) : ∀ (l : List Clm) (P : PlaceM),(commitM P n l).out = P.out ++ l.map (fun c => ⟨4,P.no,P.site c.item,n,c.item,0⟩)
 | [],P => by simp [commitM]
 | c :: l,P => by
  have := commitM_out n l (P.send 4 (P.site c.item) n c.item 0)
  show (commitM (P.send 4 (P.site c.item) n c.item 0) n l).out = _
  rw [this]
  simp [PlaceM.send,PlaceM.site]
theorem freeM_out (n : Int) : ∀ (l : List Clm) (P : PlaceM),(freeM P n l).out = P.out ++ l.map (fun c => ⟨5,P.no,P.site c.item,n,c.item,0⟩)
 | [],P => by simp [freeM]
 | c :: l,P => by
  have := freeM_out n l (P.send 5 (P.site c.item) n c.item 0)
  show (freeM (P.send 5 (P.site c.item) n c.item 0) n l).out = _
  rw [this]
  simp [PlaceM.send,PlaceM.site]
theorem commitM_eq (n : Int) (l : List Clm) (P : PlaceM) : commitM P n l = { P with out := P.out ++ l.map (fun c => ⟨4,P.no,P.site c.item,n,c.item,0⟩) } := by
 have h1 := commitM_same n l P
 have h2 := commitM_out n l P
 obtain ⟨a1,a2,a3,a4,a5,a6,_,a8⟩ := h1
 cases h : commitM P n l
 rw [h] at a1 a2 a3 a4 a5 a6 a8 h2
 simp_all
theorem freeM_eq (n : Int) (l : List Clm) (P : PlaceM) : freeM P n l = { P with out := P.out ++ l.map (fun c => ⟨5,P.no,P.site c.item,n,c.item,0⟩) } := by
 have h1 := freeM_same n l P
 have h2 := freeM_out n l P
 obtain ⟨a1,a2,a3,a4,a5,a6,_,a8⟩ := h1
 cases h : freeM P n l
 rw [h] at a1 a2 a3 a4 a5 a6 a8 h2
 simp_all
theorem refuseAll_eq (j : Nat) (n : Int) : ∀ (l : List Asker) (P : PlaceM) (it : ItemM),P.items[j]? = some (some it) →
  refuseAll j n l P it = { P with items := P.items.set j (some { it with through := thrAll (l.map (·.prop)) it.through }),out := P.out ++ l.map (fun a => ⟨3,P.no,a.place,a.prop,n,0⟩) }
 | [],P,it,h => by
  have : P.items.set j (some it) = P.items := by
   apply List.ext_getElem?
   intro k
   rw [List.getElem?_set]
   by_cases e : j = k
   ·subst e; rw [if_pos rfl,if_pos (List.getElem?_eq_some_iff.1 h).1,h]
   ·rw [if_neg e]
  simp [refuseAll,thrAll,this]
 | a :: l,P,it,h => by
  have hl := (List.getElem?_eq_some_iff.1 h).1
  rw [refuseAll,refuseAll_eq j n l _ _ (by simp [refuseM,PlaceM.send,PlaceM.setItem,hl])]
  simp [refuseM,PlaceM.send,PlaceM.setItem,thrAll,addT_eq]
theorem others_map (p : Int) (l : List Asker) : (others p l).map (·.prop) = (l.map (·.prop)).filter (· ≠ p) := by
 induction l with
 | nil => rfl
 | cons a l ih =>
  simp only [others] at *
  by_cases e : a.prop = p
  ·simp [isProp,e] at *; exact ih
  ·simp [isProp,e] at *; exact ih
theorem others_mem {p : Int} {l : List Asker} {a : Asker} (h : a ∈ others p l) : a ∈ l := (List.mem_filter.1 h).1
end
structure Taken (g : G) (i : Nat) (P : PlaceM) (m : Post) (r : G × List Post × List Came) : Prop where
 out : (takeM P m).out = r.2.1
 came : (takeM P m).came = r.2.2
 abs : PlAbs r.1 i { takeM P m with out := [],came := [] }
section
variable {g : G} {i : Nat} {P : PlaceM} {m : Post}
theorem PlAbs.at_item (h : PlAbs g i P) (I : NGood g) (hm : m ∈ g.fl) (hd : m.dst = i) (h2 : m.kind ≠ 2) (h3 : m.kind ≠ 3) :
  ∃ (j : Nat) (it : ItemM),m.item = j ∧ j < g.n ∧ g.site j = i ∧ P.items[j]? = some (some it) ∧ P.item j = some it ∧ ItAbs g.home it (g.items j) := by
 obtain ⟨_,_,c,_,hc⟩ := I.inv.mcl _ _ _ (has_mem hm)
 obtain ⟨p0,pn,j0,jn⟩ := I.inv.rng _ _ _ hc
 have hr := ((I.route m hm).dst.2 h2 h3).2
 obtain ⟨j,hj⟩ := Int.eq_ofNat_of_zero_le j0
 rw [hj] at hr jn
 obtain ⟨it,h4,h5⟩ := h.items j (by omega) (by rw [← hr]; exact hd)
 exact ⟨j,it,hj,by omega,by rw [← hr]; exact hd,h4,item_some h4,h5⟩
theorem take1_abs (h : PlAbs g i P) (I : NGood g) (hm : m ∈ g.fl) (hd : m.dst = i) (hk : m.kind = 1) : Taken g i P m (g.askedG m) := by
 obtain ⟨j,it,hj,hjn,hs,h1,h2,ha⟩ := h.at_item I hm hd (by omega) (by omega)
 have hr := ((I.route m hm).dst.2 (by omega) (by omega)).1
 have ht : takeM P m = askedM P m j it := by simp [takeM,hk,hj,h2]
 have c1 := ha.holds m.prop
 have c2 := ha.waits m.prop
 unfold G.askedG
 rw [hj]
 by_cases hc : m.prop ∈ (g.items j).thr ∨ (g.items j).hold = some m.prop ∨ m.prop ∈ (g.items j).queue
 ·have e : askedM P m j it = P := by rw [askedM,if_pos]; rw [c1,c2,← ha.thr]; exact hc
  rw [if_pos hc]
  refine ⟨by rw [ht,e]; exact h.out,by rw [ht,e]; exact h.came,?_⟩
  rw [ht,e]
  have : ({ P with out := [],came := [] } : PlaceM) = P := by cases P; have := h.out; have := h.came; simp_all
  rw [this]; exact h
 ·rw [if_neg hc]
  have hc' : ¬ (m.prop ∈ it.through ∨ (it.held = true ∧ it.lk.prop = m.prop) ∨ it.queue.any (isProp m.prop) = true) := by rw [c1,c2,← ha.thr]; exact hc
  by_cases hv : m.version ≠ (g.items j).ver
  ·have e : askedM P m j it = refuseM P j it j ⟨m.prop,m.src⟩ := by rw [askedM,if_neg hc',if_pos (by rw [← ha.ver]; exact hv)]
   rw [if_pos hv]
   refine ⟨by rw [ht,e]; simp [refuseM,PlaceM.send,PlaceM.setItem,h.out,h.no,G.mRefuse,hs,hr],by rw [ht,e]; simp [refuseM,PlaceM.send,PlaceM.setItem,h.came],?_⟩
   rw [ht,e]
   refine h.set_item hjn hs (it' := { it with through := addT m.prop it.through }) ?_ _ (by simp [refuseM,PlaceM.send,PlaceM.setItem])
   exact ⟨ha.hold,ha.queue,ha.ver,by simp [ha.thr,addT_eq],ha.place⟩
  ·rw [if_neg hv]
   have hv' : ¬ m.version ≠ it.version := by rw [← ha.ver]; exact hv
   cases hh : (g.items j).hold with
   | some q =>
    have hheld := ha.held.2 ⟨q,hh⟩
    have e : askedM P m j it = P.setItem j { it with queue := it.queue ++ [⟨m.prop,m.src⟩] } := by rw [askedM,if_neg hc',if_neg hv',if_pos hheld]
    refine ⟨by rw [ht,e]; exact h.out,by rw [ht,e]; exact h.came,?_⟩
    rw [ht,e]
    refine h.set_item hjn hs (it' := { it with queue := it.queue ++ [⟨m.prop,m.src⟩] }) ?_ _ (by simp [PlaceM.setItem])
    refine ⟨ha.hold,by simp [ha.queue],ha.ver,ha.thr,?_⟩
    intro a ha'
    rcases List.mem_append.1 ha' with ha' | ha'
    ·exact ha.place a ha'
    ·rw [List.mem_singleton.1 ha']; exact hr
   | none =>
    have hheld : ¬ it.held = true := fun e => by obtain ⟨q,hq⟩ := ha.held.1 e; rw [hh] at hq; cases hq
    have e : askedM P m j it = grantM P j it j ⟨m.prop,m.src⟩ := by rw [askedM,if_neg hc',if_neg hv',if_neg hheld]
    refine ⟨by rw [ht,e]; simp [grantM,PlaceM.send,PlaceM.setItem,h.out,h.no,G.mGrant,hs,hr],by rw [ht,e]; simp [grantM,PlaceM.send,PlaceM.setItem,h.came],?_⟩
    rw [ht,e]
    refine h.set_item hjn hs (it' := { it with held := true,lk := ⟨m.prop,m.src⟩ }) ?_ _ (by simp [grantM,PlaceM.send,PlaceM.setItem])
    exact ⟨by simp,ha.queue,ha.ver,ha.thr,ha.place⟩
theorem take4_abs (h : PlAbs g i P) (I : NGood g) (hm : m ∈ g.fl) (hd : m.dst = i) (hk : m.kind = 4) : Taken g i P m (g.committedG m) := by
 obtain ⟨j,it,hj,hjn,hs,h1,h2,ha⟩ := h.at_item I hm hd (by omega) (by omega)
 have ht : takeM P m = committedM P m j it := by simp [takeM,hk,hj,h2]
 have c1 := ha.holds m.prop
 unfold G.committedG
 rw [hj]
 by_cases hc : (g.items j).hold = some m.prop
 ·rw [if_pos hc]
  have hl := (List.getElem?_eq_some_iff.1 h1).1
  have e : committedM P m j it = { P with items := P.items.set j (some { it with version := it.version + 1,through := thrAll (it.queue.map (·.prop)) (addP m.prop it.through),held := false,lk := ⟨0,0⟩,queue := [] }),out := P.out ++ it.queue.map (fun a => ⟨3,P.no,a.place,a.prop,m.item,0⟩),came := P.came ++ [⟨3,m.prop,m.item⟩] } := by
   rw [committedM,if_pos (c1.2 hc),refuseAll_eq _ _ _ _ _ (by simp [PlaceM.happen,PlaceM.setItem,hl])]
   simp [PlaceM.happen,PlaceM.setItem,addT_eq]
  refine ⟨?_,by rw [ht,e]; simp [h.came,hj],?_⟩
  ·rw [ht,e]
   simp only [h.out,List.nil_append,ha.queue,List.map_map]
   refine List.map_congr_left fun a ha' => ?_
   simp only [Function.comp,G.mRefuse,h.no,hs,hj,ha.place a ha']
  ·rw [ht,e]
   refine h.set_item hjn hs (it' := { it with version := it.version + 1,through := thrAll (it.queue.map (·.prop)) (addP m.prop it.through),held := false,lk := ⟨0,0⟩,queue := [] }) ?_ _ rfl
   exact ⟨by simp,by simp,by simp [ha.ver],by simp [ha.thr,ha.queue],by simp⟩
 ·rw [if_neg hc]
  have e : committedM P m j it = P := by rw [committedM,if_neg (fun e => hc (c1.1 e))]
  refine ⟨by rw [ht,e]; exact h.out,by rw [ht,e]; exact h.came,?_⟩
  rw [ht,e]
  have : ({ P with out := [],came := [] } : PlaceM) = P := by cases P; have := h.out; have := h.came; simp_all
  rw [this]; exact h
theorem take5_abs (h : PlAbs g i P) (I : NGood g) (hm : m ∈ g.fl) (hd : m.dst = i) (hk : m.kind = 5) : Taken g i P m (g.freedG m) := by
 obtain ⟨j,it,hj,hjn,hs,h1,h2,ha⟩ := h.at_item I hm hd (by omega) (by omega)
 have ht : takeM P m = freedM P m j it := by simp [takeM,hk,hj,h2]
 have c1 := ha.holds m.prop
 have hq : (g.items j).queue.filter (· ≠ m.prop) = (others m.prop it.queue).map (·.prop) := by rw [ha.queue,others_map]
 unfold G.freedG
 rw [hj]
 by_cases hc : (g.items j).hold = some m.prop
 ·rw [if_pos hc]
  cases ho : others m.prop it.queue with
  | nil =>
   rw [hq,ho]
   have e : freedM P m j it = P.setItem j { freedItem it m.prop with held := false,lk := ⟨0,0⟩ } := by rw [freedM,if_pos (c1.2 hc),ho]
   simp only [List.map_nil]
   refine ⟨by rw [ht,e]; exact h.out,by rw [ht,e]; exact h.came,?_⟩
   rw [ht,e]
   refine h.set_item hjn hs (it' := { freedItem it m.prop with held := false,lk := ⟨0,0⟩ }) ?_ _ (by simp [PlaceM.setItem])
   exact ⟨by simp,by simp [freedItem,ho],by simp [freedItem,ha.ver],by simp [freedItem,ha.thr,addT_eq],by simp [freedItem,ho]⟩
  | cons a l =>
   rw [hq,ho]
   have e : freedM P m j it = grantM P j { freedItem it m.prop with held := false,lk := ⟨0,0⟩,queue := others a.prop (a :: l) } j a := by rw [freedM,if_pos (c1.2 hc),ho]
   have hpl : a.place = g.home a.prop := ha.place a (others_mem (by rw [ho]; simp))
   simp only [List.map_cons]
   refine ⟨by rw [ht,e]; simp [grantM,PlaceM.send,PlaceM.setItem,h.out,h.no,G.mGrant,hs,hpl],by rw [ht,e]; simp [grantM,PlaceM.send,PlaceM.setItem,h.came],?_⟩
   rw [ht,e]
   refine h.set_item hjn hs (it' := { freedItem it m.prop with held := true,lk := a,queue := others a.prop (a :: l) }) ?_ _ (by simp [grantM,PlaceM.send,PlaceM.setItem])
   refine ⟨by simp,by simp only [others_map]; simp,by simp [freedItem,ha.ver],by simp [freedItem,ha.thr,addT_eq],?_⟩
   intro b hb
   have hb1 := others_mem (show b ∈ others a.prop (a :: l) from hb)
   rw [← ho] at hb1
   exact ha.place b (others_mem hb1)
 ·rw [if_neg hc]
  have e : freedM P m j it = P.setItem j (freedItem it m.prop) := by rw [freedM,if_neg (fun e => hc (c1.1 e))]
  refine ⟨by rw [ht,e]; exact h.out,by rw [ht,e]; exact h.came,?_⟩
  rw [ht,e]
  refine h.set_item hjn hs (it' := freedItem it m.prop) ?_ _ (by simp [PlaceM.setItem])
  exact ⟨ha.hold,by simp only [freedItem]; rw [hq],by simp [freedItem,ha.ver],by simp [freedItem,ha.thr,addT_eq],fun a h => ha.place a (others_mem h)⟩
theorem PlAbs.at_prop (h : PlAbs g i P) (I : NGood g) (hm : m ∈ g.fl) (hd : m.dst = i) (hk : m.kind = 2 ∨ m.kind = 3) :
  ∃ x,(m.prop,x) ∈ P.props ∧ find P.props m.prop = some x ∧ g.home m.prop = i ∧ x.claims = (g.props m.prop).claims ∧ x.state = (g.props m.prop).st ∧ x.granted = (g.props m.prop).got ∧
   (g.at_ m.prop m.item → openM P m = some x) ∧ (¬ g.at_ m.prop m.item → openM P m = none) := by
 obtain ⟨_,_,c,_,hc⟩ := I.inv.mcl _ _ _ (has_mem hm)
 obtain ⟨p0,pn,j0,jn⟩ := I.inv.rng _ _ _ hc
 have hr := ((I.route m hm).dst.1 hk).2
 obtain ⟨x,hx⟩ := h.has m.prop p0 pn (by rw [← hr]; exact hd)
 obtain ⟨_,_,h3,h4,h5,h6⟩ := h.props _ _ hx
 have hf := mem_find h.uniq hx
 refine ⟨x,hx,hf,h3,h4,h5,h6,fun ha => ?_,fun ha => ?_⟩
 ·rw [openM,hf]; simp only; rw [if_pos]; rw [h4,h5,h6]; exact ha
 ·rw [openM,hf]; simp only; rw [if_neg]; rw [h4,h5,h6]; exact ha
theorem claim_site (h : PlAbs g i P) (I : NGood g) {p : Int} {c : Clm} (hc : c ∈ (g.props p).claims) : P.site c.item = g.site c.item := by
 obtain ⟨k,hk⟩ := cl_of_mem hc
 obtain ⟨_,_,j0,jn⟩ := I.inv.rng _ _ _ hk
 exact h.site j0 jn
theorem take2_abs (h : PlAbs g i P) (I : NGood g) (hm : m ∈ g.fl) (hd : m.dst = i) (hk : m.kind = 2) : Taken g i P m (g.grantedG m) := by
 obtain ⟨x,hx,hf,hh,e1,e2,e3,ho,hno⟩ := h.at_prop I hm hd (.inl hk)
 have ht : takeM P m = grantedM P m := by simp [takeM,hk]
 unfold G.grantedG
 by_cases ha : g.at_ m.prop m.item
 ·rw [if_pos ha]
  have hop := ho ha
  cases hc : (g.props m.prop).claims[(g.props m.prop).got + 1]? with
  | some c =>
   have e : grantedM P m = (setProp P m.prop { x with granted := x.granted + 1 }).send 1 (P.site c.item) m.prop c.item c.version := by
    rw [grantedM,hop]; simp only; rw [e1,e3,hc]
   have hsi := claim_site h I (List.mem_of_getElem? hc)
   refine ⟨by rw [ht,e]; simp [PlaceM.send,setProp,h.out,h.no,G.mAsk,hh,hsi],by rw [ht,e]; simp [PlaceM.send,setProp,h.came],?_⟩
   rw [ht,e]
   exact h.set_prop hx (x' := { x with granted := x.granted + 1 }) (d := g.dec) (by simp [e1]) (by simp [e2]) (by simp [e3]) _ (by simp [PlaceM.send,setProp])
  | none =>
   have e : grantedM P m = commitM ((setProp P m.prop { x with granted := x.granted + 1,state := 2 }).happen 1 m.prop (-1)) m.prop x.claims := by
    rw [grantedM,hop]; simp only; rw [e1,e3,hc]
   rw [commitM_eq] at e
   refine ⟨?_,by rw [ht,e]; simp [PlaceM.happen,setProp,h.came],?_⟩
   ·rw [ht,e]
    simp only [PlaceM.happen,setProp,h.out,List.nil_append,e1]
    refine List.map_congr_left fun c hc' => ?_
    have hsi := claim_site h I hc'
    simp only [PlaceM.site] at hsi
    simp only [G.mCommit,h.no,hh,PlaceM.site,hsi]
   ·rw [ht,e]
    exact h.set_prop hx (x' := { x with granted := x.granted + 1,state := 2 }) (d := g.dec ++ [m.prop]) (by simp [e1]) (by simp) (by simp [e3]) _ (by simp [PlaceM.happen,setProp])
 ·rw [if_neg ha]
  have e : grantedM P m = P := by rw [grantedM,hno ha]
  refine ⟨by rw [ht,e]; exact h.out,by rw [ht,e]; exact h.came,?_⟩
  rw [ht,e]
  have : ({ P with out := [],came := [] } : PlaceM) = P := by cases P; have := h.out; have := h.came; simp_all
  rw [this]; exact h
theorem take3_abs (h : PlAbs g i P) (I : NGood g) (hm : m ∈ g.fl) (hd : m.dst = i) (hk : m.kind = 3) : Taken g i P m (g.refusedG m) := by
 obtain ⟨x,hx,hf,hh,e1,e2,e3,ho,hno⟩ := h.at_prop I hm hd (.inr hk)
 have ht : takeM P m = refusedM P m := by simp [takeM,hk]
 unfold G.refusedG
 by_cases ha : g.at_ m.prop m.item
 ·rw [if_pos ha]
  have hop := ho ha
  have e : refusedM P m = freeM ((setProp P m.prop { x with state := 3 }).happen 2 m.prop (-1)) m.prop (x.claims.take x.granted) := by rw [refusedM,hop]
  rw [freeM_eq] at e
  refine ⟨?_,by rw [ht,e]; simp [PlaceM.happen,setProp,h.came],?_⟩
  ·rw [ht,e]
   simp only [PlaceM.happen,setProp,h.out,List.nil_append,e1,e3]
   refine List.map_congr_left fun c hc' => ?_
   have hsi := claim_site h I (List.mem_of_mem_take hc')
   simp only [PlaceM.site] at hsi
   simp only [G.mFree,h.no,hh,PlaceM.site,hsi]
  ·rw [ht,e]
   exact h.set_prop hx (x' := { x with state := 3 }) (d := g.dec) (by simp [e1]) (by simp) (by simp [e3]) _ (by simp [PlaceM.happen,setProp])
 ·rw [if_neg ha]
  have e : refusedM P m = P := by rw [refusedM,hno ha]
  refine ⟨by rw [ht,e]; exact h.out,by rw [ht,e]; exact h.came,?_⟩
  rw [ht,e]
  have : ({ P with out := [],came := [] } : PlaceM) = P := by cases P; have := h.out; have := h.came; simp_all
  rw [this]; exact h
theorem take_abs (h : PlAbs g i P) (I : NGood g) (hm : m ∈ g.fl) (hd : m.dst = i) : Taken g i P m (g.takeG m) := by
 obtain ⟨h1,h2,_⟩ := I.inv.mcl _ _ _ (has_mem hm)
 unfold G.takeG
 split
 ·exact take2_abs h I hm hd (by assumption)
 ·split
  ·exact take3_abs h I hm hd (by assumption)
  ·split
   ·exact take1_abs h I hm hd (by assumption)
   ·split
    ·exact take4_abs h I hm hd (by assumption)
    ·exact take5_abs h I hm hd (by omega)
end
end Go.Proofs.Ytclkokkppgchfaa
namespace Go.Ng
theorem nodup_len {n : Nat} : ∀ {l : List Int},l.Nodup → (∀ x ∈ l,0 ≤ x ∧ x < n) → l.length ≤ n := by
 induction n with
 | zero =>
  intro l _ h
  cases l with
  | nil => simp
  | cons a t => have := h a (by simp); omega
 | succ n ih =>
  intro l hd h
  have h1 : (l.filter (fun x => decide (x ≠ (n : Int)))).length ≤ n := by
   refine ih (hd.filter _) (fun x hx => ?_)
   simp only [List.mem_filter,decide_eq_true_eq] at hx
   have := h x hx.1
   omega
  have h2 : l.length ≤ (l.filter (fun x => decide (x ≠ (n : Int)))).length + 1 := by
   clear ih h h1
   induction l with
   | nil => simp
   | cons a t ih =>
    have hd' := List.nodup_cons.1 hd
    by_cases e : a = n
    ·subst e
     have : t.filter (fun x => decide (x ≠ (n : Int))) = t := List.filter_eq_self.2 (fun x hx => by simp; rintro rfl; exact hd'.1 hx)
     rw [List.filter_cons_of_neg (by simp),this]; simp
    ·rw [List.filter_cons_of_pos (by simpa using e)]
     have := ih hd'.2
     simp only [List.length_cons]; omega
  omega
section
variable {g : G}
theorem queue_len (I : NGood g) (j : Int) : (g.items j).queue.length ≤ g.np := by
 refine nodup_len (I.inv.qnd j) (fun x hx => ?_)
 obtain ⟨i,_,hi⟩ := I.inv.qcl _ _ hx
 have := I.inv.rng _ _ _ hi
 omega
theorem hist_len (I : NGood g) (j : Int) : (g.items j).hist.length ≤ g.np :=
 nodup_len (I.inv.hnd j) (fun x hx => by have := hist_rng I.inv hx; omega)
theorem dec_len (I : NGood g) : g.dec.length ≤ g.np := nodup_len I.inv.e0 (fun x hx => by have := moment I.inv hx; omega)
theorem takeG_props (m : Post) (p : Int) (h : p ≠ m.prop ∨ (m.kind ≠ 2 ∧ m.kind ≠ 3)) : (g.takeG m).1.props p = g.props p := by
 unfold G.takeG
 split
 ·rename_i hk
  have hp : p ≠ m.prop := by grind
  unfold G.grantedG
  split
  ·split <;> simp [G.setP,hp]
  ·rfl
 ·split
  ·rename_i hk
   have hp : p ≠ m.prop := by grind
   unfold G.refusedG
   split
   ·simp [G.setP,hp]
   ·rfl
  ·split
   ·unfold G.askedG
    repeat' (first | rfl | split)
   ·split
    ·unfold G.committedG
     repeat' (first | rfl | split)
    ·unfold G.freedG
     repeat' (first | rfl | split)
theorem takeG_items (m : Post) (j : Int) (h : j ≠ m.item ∨ m.kind = 2 ∨ m.kind = 3) : (g.takeG m).1.items j = g.items j := by
 unfold G.takeG
 split
 ·unfold G.grantedG
  repeat' (first | rfl | split)
 ·split
  ·unfold G.refusedG
   repeat' (first | rfl | split)
  ·have hj : j ≠ m.item := by grind
   split
   ·unfold G.askedG
    repeat' (first | rfl | (simp only [G.setI,if_neg hj]; done) | split)
   ·split
    ·unfold G.committedG
     repeat' (first | rfl | (simp only [G.setI,if_neg hj]; done) | split)
    ·unfold G.freedG
     repeat' (first | rfl | (simp only [G.setI,if_neg hj]; done) | split)
inductive Cames (g : G) (m : Post) : G → List Came → Prop
 | none {g1 : G} (hd : g1.dec = g.dec) (hh : ∀ j,(g1.items j).hist = (g.items j).hist) : Cames g m g1 []
 | done {g1 : G} (hd : g1.dec = g.dec ++ [m.prop]) (hh : ∀ j,(g1.items j).hist = (g.items j).hist) : Cames g m g1 [⟨1,m.prop,-1⟩]
 | not {g1 : G} (hd : g1.dec = g.dec) (hh : ∀ j,(g1.items j).hist = (g.items j).hist) : Cames g m g1 [⟨2,m.prop,-1⟩]
 | moved {g1 : G} (hd : g1.dec = g.dec) (hh : ∀ j,j ≠ m.item → (g1.items j).hist = (g.items j).hist) (h1 : (g1.items m.item).hist = (g.items m.item).hist ++ [m.prop]) : Cames g m g1 [⟨3,m.prop,m.item⟩]
theorem setI_hist {j : Int} {x : It} (h : x.hist = (g.items j).hist) (i : Int) : ((g.setI j x).items i).hist = (g.items i).hist := by
 by_cases e : i = j
 ·subst e; simp [G.setI,h]
 ·simp [G.setI,e]
theorem takeG_cames (m : Post) : Cames g m (g.takeG m).1 (g.takeG m).2.2 := by
 unfold G.takeG
 split
 ·unfold G.grantedG
  split
  ·split
   ·exact .none rfl (fun _ => rfl)
   ·exact .done rfl (fun _ => rfl)
  ·exact .none rfl (fun _ => rfl)
 ·split
  ·unfold G.refusedG
   split
   ·exact .not rfl (fun _ => rfl)
   ·exact .none rfl (fun _ => rfl)
  ·split
   ·unfold G.askedG
    split
    ·exact .none rfl (fun _ => rfl)
    ·split
     ·exact .none rfl (setI_hist rfl)
     ·split
      ·exact .none rfl (setI_hist rfl)
      ·exact .none rfl (setI_hist rfl)
   ·split
    ·unfold G.committedG
     split
     ·exact .moved rfl (fun i e => by simp [G.setI,e]) (by simp [G.setI])
     ·exact .none rfl (fun _ => rfl)
    ·unfold G.freedG
     split
     ·split
      ·exact .none rfl (setI_hist rfl)
      ·exact .none rfl (setI_hist rfl)
     ·exact .none rfl (setI_hist rfl)
theorem takeG_out_len (I : NGood g) (m : Post) : (g.takeG m).2.1.length ≤ 64 + g.np := by
 unfold G.takeG
 have h1 := I.inv.len m.prop
 have h2 := queue_len I m.item
 split
 ·unfold G.grantedG
  split
  ·split
   ·simp; omega
   ·simp; omega
  ·simp
 ·split
  ·unfold G.refusedG
   split
   ·simp; omega
   ·simp
  ·split
   ·unfold G.askedG
    repeat' split
    all_goals (simp; try omega)
   ·split
    ·unfold G.committedG
     split
     ·simp; omega
     ·simp
    ·unfold G.freedG
     repeat' split
     all_goals (simp; try omega)
end
structure Small (g : G) : Prop where
 np : g.np ≤ 150
 w : W1.all g ≤ 15000
end Go.Ng
namespace Go.Proofs.Ytclkokkppgchfaa
open Go.Ng
structure Abs (N : NetM) (g : G) : Prop where
 plen : N.places.length = g.places
 p32 : 1 ≤ g.places ∧ g.places ≤ 32
 place : ∀ (i : Nat) (P : PlaceM),N.places[i]? = some P → PlAbs g i P
 slen : N.sites.length = g.n
 sites : ∀ j : Nat,j < g.n → N.sites[j]? = some (g.site j)
 n64 : g.n ≤ 64
 siter : ∀ j : Int,0 ≤ j → j < g.n → 0 ≤ g.site j ∧ g.site j < g.places
 clen : N.claims.length = g.np
 claims : ∀ p : Nat,p < g.np → N.claims[p]? = some (g.props p).claims
 hlen : N.homes.length = g.np
 homes : ∀ p : Nat,p < g.np → N.homes[p]? = some (g.home p)
 homer : ∀ p : Int,0 ≤ p → p < g.np → 0 ≤ g.home p ∧ g.home p < g.places
 ylen : N.history.length = g.n
 hist : ∀ j : Nat,j < g.n → N.history[j]? = some (g.items j).hist
 fl : N.flight = g.fl
 dec : N.decided = g.dec
section
variable {N : NetM} {g : G}
theorem Abs.at_item (A : Abs N g) {j : Nat} (hj : j < g.n) : ∃ (p : Nat) (P : PlaceM) (it : ItemM),g.site j = p ∧ N.sites[j]? = some (p : Int) ∧ N.places[p]? = some P ∧ P.items[j]? = some (some it) ∧ ItAbs g.home it (g.items j) ∧ N.history[j]? = some (g.items j).hist := by
 obtain ⟨h0,h1⟩ := A.siter j (by omega) (by omega)
 obtain ⟨p,hp⟩ := Int.eq_ofNat_of_zero_le h0
 have hpl : p < N.places.length := by rw [A.plen]; omega
 obtain ⟨it,h2,h3⟩ := (A.place p _ (List.getElem?_eq_getElem hpl)).items j hj hp
 exact ⟨p,_,it,hp,by rw [A.sites j hj,hp],List.getElem?_eq_getElem hpl,h2,h3,A.hist j hj⟩
theorem Abs.at_prop (A : Abs N g) {n : Nat} (hn : n < g.np) : ∃ (p : Nat) (P : PlaceM) (x : PropM),g.home n = p ∧ N.homes[n]? = some (p : Int) ∧ N.places[p]? = some P ∧ find P.props n = some x ∧ ((n : Int),x) ∈ P.props ∧ x.claims = (g.props n).claims ∧ x.state = (g.props n).st ∧ x.granted = (g.props n).got := by
 obtain ⟨h0,h1⟩ := A.homer n (by omega) (by omega)
 obtain ⟨p,hp⟩ := Int.eq_ofNat_of_zero_le h0
 have hpl : p < N.places.length := by rw [A.plen]; omega
 have hA := A.place p _ (List.getElem?_eq_getElem hpl)
 obtain ⟨x,hx⟩ := hA.has n (by omega) (by omega) hp
 obtain ⟨_,_,_,h4,h5,h6⟩ := hA.props _ _ hx
 exact ⟨p,_,x,hp,by rw [A.homes n hn,hp],List.getElem?_eq_getElem hpl,mem_find hA.uniq hx,hx,h4,h5,h6⟩
theorem Abs.wf (A : Abs N g) (I : NGood g) {i : Nat} {P : PlaceM} (h : N.places[i]? = some P) : WF P := by
 have hA := A.place i P h
 refine ⟨hA.uniq,?_,?_,?_,?_,by rw [hA.slen]; exact A.n64,by rw [hA.ilen,hA.slen]⟩
 ·intro n x hx hs
  obtain ⟨_,_,_,h4,h5,h6⟩ := hA.props _ _ hx
  rw [h4,h6]; exact I.inv.got1 n (.inl (by rw [← h5]; exact hs))
 ·intro n x hx
  obtain ⟨h1,h2,_,h4,h5,h6⟩ := hA.props _ _ hx
  rw [h4,h6]
  rcases I.inv.st0 n with e | e | e | e | e
  ·exact absurd ((I.inv.zero n).1 e) (I.inv.full n h1 h2)
  ·exact Nat.le_of_lt (I.inv.got1 n (.inl e))
  ·exact Nat.le_of_eq (I.inv.got2 n e)
  ·exact Nat.le_of_lt (I.inv.got1 n (.inr (.inl e)))
  ·exact Nat.le_of_lt (I.inv.got1 n (.inr (.inr e)))
 ·intro n x hx
  obtain ⟨_,_,_,h4,h5,h6⟩ := hA.props _ _ hx
  rw [h4]; exact I.inv.len n
 ·intro n x hx c hc
  obtain ⟨_,_,_,h4,h5,h6⟩ := hA.props _ _ hx
  rw [h4] at hc
  obtain ⟨k,hk⟩ := cl_of_mem hc
  obtain ⟨_,_,j0,jn⟩ := I.inv.rng _ _ _ hk
  obtain ⟨m,hm⟩ := Int.eq_ofNat_of_zero_le j0
  exact ⟨m,hm,by rw [hA.slen]; omega⟩
theorem Abs.tame (A : Abs N g) (I : NGood g) (S : Small g) {i : Nat} {P : PlaceM} (h : N.places[i]? = some P) : Tame P ∧ ∀ (j : Nat) (it : ItemM),P.items[j]? = some (some it) → it.queue.length ≤ 200 := by
 have hA := A.place i P h
 have key : ∀ (j : Nat) (it : ItemM),P.items[j]? = some (some it) → it.queue.length ≤ 150 ∧ 0 ≤ it.version ∧ it.version ≤ 150 := by
  intro j it hj
  have hl : j < g.n := by have := (List.getElem?_eq_some_iff.1 hj).1; rw [hA.ilen] at this; exact this
  obtain ⟨it',h1,h2⟩ := hA.items j hl (hA.foreign j it hj)
  rw [hj] at h1
  injection h1 with h1
  injection h1 with h1
  subst h1
  have h3 := queue_len I (j : Int)
  have h4 := hist_len I (j : Int)
  have h5 := I.inv.vh j
  have h6 := S.np
  rw [h2.queue,List.length_map] at h3
  rw [h2.ver] at h5
  omega
 refine ⟨⟨A.wf I h,by rw [hA.out]; simp,by rw [hA.came]; simp,fun j it hj => ?_,fun j it hj => ?_⟩,fun j it hj => ?_⟩
 ·have := key j it hj; omega
 ·have := key j it hj; omega
 ·have := key j it hj; omega
theorem Abs.valid (A : Abs N g) (I : NGood g) (S : Small g) {i : Nat} {P : PlaceM} (h : N.places[i]? = some P) {m : Post} (hm : m ∈ g.fl) (hd : m.dst = i) :
  Valid P m ∧ (m.kind = 2 ∨ m.kind = 3 → ∃ x,find P.props m.prop = some x) ∧ (m.kind ≠ 2 → m.kind ≠ 3 → ∃ it,P.items[m.item.toNat]? = some (some it)) := by
 have hA := A.place i P h
 obtain ⟨k1,k2,c,_,hc⟩ := I.inv.mcl _ _ _ (has_mem hm)
 obtain ⟨p0,pn,j0,jn⟩ := I.inv.rng _ _ _ hc
 have R := I.route m hm
 have hs := hA.site j0 jn
 have hsr := A.siter m.item j0 jn
 have hhr := A.homer m.prop p0 pn
 have hp32 := A.p32
 have hnp := S.np
 refine ⟨⟨⟨k1,k2⟩,by rw [hd,hA.no],?_,⟨j0,by rw [hA.slen]; exact jn⟩,⟨?_,R.ver⟩,⟨p0,by omega⟩,?_⟩,fun hk => ?_,fun h2 h3 => ?_⟩
 ·by_cases e : m.kind = 2 ∨ m.kind = 3
  ·have := (R.dst.1 e).1; omega
  ·have := (R.dst.2 (fun x => e (.inl x)) (fun x => e (.inr x))).1; omega
 ·by_cases e : m.kind = 1
  ·have h1 := R.ask e
   exact I.clv m.prop _ h1
  ·rw [R.ver e]; exact Int.le_refl _
 ·rw [hs]
  by_cases e : m.kind = 2 ∨ m.kind = 3
  ·rw [if_pos e]; exact (R.dst.1 e).1.symm
  ·rw [if_neg e]; exact (R.dst.2 (fun x => e (.inl x)) (fun x => e (.inr x))).2.symm
 ·obtain ⟨x,_,hf,_⟩ := hA.at_prop I hm hd hk
  exact ⟨x,hf⟩
 ·obtain ⟨j,it,hj,_,_,h4,_⟩ := hA.at_item I hm hd h2 h3
  exact ⟨it,by rw [hj]; exact h4⟩
theorem getD_hist (A : Abs N g) (I : NGood g) (j : Nat) : (N.history.getD j []).length ≤ g.np := by
 by_cases e : j < g.n
 ·rw [List.getD_eq_getElem?_getD,A.hist j e]; exact hist_len I j
 ·rw [List.getD_eq_getElem?_getD,List.getElem?_eq_none (by rw [A.ylen]; omega)]; simp
theorem Abs.put (A : Abs N g) {p : Nat} {P P' : PlaceM} (hp : N.places[p]? = some P) {g1 : G} (hP : PlAbs g1 p P') (hn : g1.n = g.n) (hnp : g1.np = g.np) (hs : g1.site = g.site) (hh : g1.home = g.home) (hpl : g1.places = g.places)
  (hc : ∀ q,(g1.props q).claims = (g.props q).claims) (hI : ∀ j : Nat,j < g.n → g.site j ≠ p → g1.items j = g.items j) (hPr : ∀ q : Int,0 ≤ q → q < g.np → g.home q ≠ p → g1.props q = g.props q) {fl : List Post} {y : List (List Int)} {d : List Int}
  (hy : y.length = g.n) (hyj : ∀ j : Nat,j < g.n → y[j]? = some (g1.items j).hist) (hd : d = g1.dec) :
  Abs { N with places := N.places.set p P',flight := fl,history := y,decided := d } { g1 with fl := fl } := by
 have hl := (List.getElem?_eq_some_iff.1 hp).1
 refine ⟨by simp [A.plen,hpl],by rw [hpl]; exact A.p32,?_,by rw [hn]; exact A.slen,by rw [hn,hs]; exact A.sites,by rw [hn]; exact A.n64,by rw [hn,hs,hpl]; exact A.siter,by rw [hnp]; exact A.clen,by rw [hnp]; intro q hq; rw [hc]; exact A.claims q hq,
  by rw [hnp]; exact A.hlen,by rw [hnp,hh]; exact A.homes,by rw [hnp,hh,hpl]; exact A.homer,by rw [hn]; exact hy,by rw [hn]; exact hyj,rfl,hd⟩
 intro i Q hQ
 simp only [List.getElem?_set] at hQ
 by_cases e : p = i
 ·subst e
  rw [if_pos rfl,if_pos hl] at hQ
  injection hQ with hQ
  subst hQ
  exact ⟨hP.no,hP.slen,hP.sites,hP.ilen,hP.items,hP.foreign,hP.props,hP.uniq,hP.has,hP.plen,hP.out,hP.came⟩
 ·rw [if_neg e] at hQ
  have hA := (A.place i Q hQ).other (g1 := g1) hn hnp hs hh (fun j hj hsj => ⟨(g.items j).hist,by rw [hI j hj (by omega)]⟩) (fun q h0 h1 h2 => hPr q h0 h1 (by omega))
  exact ⟨hA.no,hA.slen,hA.sites,hA.ilen,hA.items,hA.foreign,hA.props,hA.uniq,hA.has,hA.plen,hA.out,hA.came⟩
theorem Abs.deliver (A : Abs N g) (I : NGood g) {i p : Nat} {P : PlaceM} {m : Post} (hi : N.flight[i]? = some m) (hd : m.dst = p) (hp : N.places[p]? = some P) : Abs (deliverN N i p P m) (g.deliverG i m) ∧ (takeM P m).came = (g.takeG m).2.2 := by
 have hA := A.place p P hp
 rw [A.fl] at hi
 have hm := List.mem_of_getElem? hi
 have T := take_abs hA I hm hd
 obtain ⟨s1,s2,s3,s4,s5,s6,s7⟩ := takeG_same (g := g) m
 have R := I.route m hm
 refine ⟨?_,T.came⟩
 obtain ⟨_,_,c,_,hc⟩ := I.inv.mcl _ _ _ (has_mem hm)
 obtain ⟨p0,pn,j0,jn⟩ := I.inv.rng _ _ _ hc
 have hI : ∀ j : Nat,j < g.n → g.site j ≠ p → (g.takeG m).1.items j = g.items j := by
  intro j hj hs
  refine takeG_items m j ?_
  by_cases e : m.kind = 2 ∨ m.kind = 3
  ·exact .inr e
  ·refine .inl (fun e' => hs ?_)
   rw [e',← (R.dst.2 (fun x => e (.inl x)) (fun x => e (.inr x))).2]; exact hd
 have hPr : ∀ q : Int,0 ≤ q → q < g.np → g.home q ≠ p → (g.takeG m).1.props q = g.props q := by
  intro q h0 h1 hs
  refine takeG_props m q ?_
  by_cases e : m.kind = 2 ∨ m.kind = 3
  ·refine .inl (fun e' => hs ?_)
   rw [e',← (R.dst.1 e).2]; exact hd
  ·exact .inr ⟨fun x => e (.inl x),fun x => e (.inr x)⟩
 have fin : ∀ (y : List (List Int)) (d : List Int),y.length = g.n → (∀ j : Nat,j < g.n → y[j]? = some ((g.takeG m).1.items j).hist) → d = (g.takeG m).1.dec →
   Abs { N with places := N.places.set p { takeM P m with out := [],came := [] },flight := N.flight.eraseIdx i ++ (takeM P m).out,history := y,decided := d } (g.deliverG i m) := by
  intro y d hy hyj hdd
  have := A.put hp T.abs s3 s4 s1 s2 s5 s7 hI hPr (fl := N.flight.eraseIdx i ++ (takeM P m).out) hy hyj hdd
  rw [A.fl,T.out] at this ⊢
  exact this
 unfold deliverN takeN
 rw [T.came]
 have hC := takeG_cames (g := g) m
 generalize hg1 : (g.takeG m).1 = g1 at *
 generalize hcs : (g.takeG m).2.2 = cs at *
 cases hC with
 | none h1 h2 => exact fin _ _ A.ylen (fun j hj => by rw [h2]; exact A.hist j hj) (by rw [h1]; exact A.dec)
 | done h1 h2 =>
  simp only [List.foldl_cons,List.foldl_nil,noteM,if_true]
  exact fin _ _ A.ylen (fun j hj => by rw [h2]; exact A.hist j hj) (by rw [h1,A.dec])
 | not h1 h2 =>
  simp only [List.foldl_cons,List.foldl_nil,noteM]
  exact fin _ _ A.ylen (fun j hj => by rw [h2]; exact A.hist j hj) (by rw [h1]; exact A.dec)
 | moved h1 h2 h3 =>
  simp only [List.foldl_cons,List.foldl_nil,noteM]
  obtain ⟨k,hk⟩ := Int.eq_ofNat_of_zero_le j0
  have hkn : k < g.n := by omega
  refine fin _ _ (by simp [A.ylen]) (fun j hj => ?_) (by rw [h1]; exact A.dec)
  rw [List.getElem?_set]
  by_cases e : m.item.toNat = j
  ·have e' : m.item = (j : Int) := by omega
   rw [if_pos e,if_pos (by rw [A.ylen]; omega),← e',h3,List.getD_eq_getElem?_getD,show m.item.toNat = k by omega,A.hist k hkn,hk]
   rfl
  ·rw [if_neg e,h2 _ (by omega)]
   exact A.hist j hj
end
end Go.Proofs.Ytclkokkppgchfaa
namespace Go.Proofs.Ytclkokkppgchfaa
open Go.RowKit Go.Ng Go.Proofs.YtclkokkppgchfaaW.PrintLast
def proposeM (P : PlaceM) (n : Int) (l : List Clm) (xp : Nat) : PlaceM :=
 match l with
 | [] => P
 | c :: _ => ({ P with props := P.props ++ [(n,({ ptr := xp,claims := l,state := 1,granted := 0 } : PropM))] } : PlaceM).send 1 (P.site c.item) n c.item c.version
section
variable {S : Tag → Prop} {tag tag' : Nat → Tag} {w w' : World} {k : Nat}
theorem PRep.add_prop {P : PlaceM} {n : Int} {x : PropM} (h : PRep tag k w P) (hm : MapIs w' P.pm ((P.props ++ [(n,x)]).map fun x => (.int .i64 x.1,.pointer (some ⟨x.2.ptr,0,none⟩)))) (hI : PropRep tag' k w' n x) (hf : Fr S tag tag' w w')
  (hS : ∀ t,S t → t = (k,4,0)) : PRep tag' k w' { P with props := P.props ++ [(n,x)] } := by
 obtain ⟨sv,iv,ov,cv,h1,h2,h3,h4,h5⟩ := h.cells
 have no : ∀ r i,r ≠ 4 → ¬ S (k,r,i) := fun r i h1 hs => by
  have := hS _ hs
  simp_all
 refine ⟨h.k0,(hf.tag_eq h1).trans h.tptr,(hf.same _ h.pm.lt).trans h.tpm,⟨sv,iv,ov,cv,hf.heap h1 (show ¬ S (tag P.ptr) by rw [h.tptr]; exact no _ _ (by decide)),h2.fr hf (no _ _ (by decide)),h3.fr hf (no _ _ (by decide)),h4.fr hf (no _ _ (by decide)),h5.fr hf (no _ _ (by decide))⟩,
  fun j it hj => (h.items j it hj).fr hf (no _ _ (by decide)) (no _ _ (by decide)) (no _ _ (by decide)),hm,fun m y hy => ?_⟩
 rcases List.mem_append.1 hy with hy | hy
 ·exact (h.props m y hy).fr hf (no _ _ (by decide)) (no _ _ (by decide))
 ·simp at hy
  obtain ⟨rfl,rfl⟩ := hy
  exact hI
end
theorem propose_ok {tag : Nat → Tag} {k : Nat} {P : PlaceM} {w : World} (n : Int) (l : List Clm) {v : Value} (hP : PRep tag k w P) (hok : TagOk tag w) (hr : Rd 2 w v l.length (claims l))
  (hcl : claimedB P.sites.length l = true) (hn1 : 0 ≤ n) (hn2 : n ≤ 2147483647) (hf : find P.props n = none) (hlen : P.props.length < 4000) (hs : P.sites.length ≤ 1000000) (hout : P.out.length ≤ 100000) :
  Calls Try.prog 20 #[.pointer (some ⟨P.ptr,0,none⟩),.int .i64 n,v] w fun e w' => ∃ ov cv,e = .returned (.tuple #[ov,cv,.int .i64 0]) ∧
   ∃ tag' xp,Row tag' (k,5,0) 49 6 w' ov (proposeM P n l xp).out.length (posts (proposeM P n l xp).out) ∧ Row tag' (k,6,0) 106 3 w' cv P.came.length (cames P.came) ∧
    PRep tag' k w' { proposeM P n l xp with out := [],came := [] } ∧ Fr (fun t => t.1 = k) tag tag' w w' := by
 obtain ⟨sv,iv,ov,cv,hc,h2,h3,h4,h5⟩ := hP.cells
 obtain ⟨A,cap,rfl,hl1,hl2⟩ := h2.form
 unfold maxLen at hl2
 have c1 : w.cell? ⟨P.ptr,1,none⟩ = some (.slice A P.sites.length cap) := cell_of hc 1
 have c3 : w.cell? ⟨P.ptr,3,none⟩ = some (.map (some P.pm)) := cell_of hc 3
 have hpl := lt_of_heap hc
 simp only [claimedB,Bool.and_eq_true,decide_eq_true_eq] at hcl
 obtain ⟨⟨hl3,hl4⟩,hokf⟩ := hcl
 obtain ⟨c,lr,rfl⟩ : ∃ c lr,l = c :: lr := by
  cases l with
  | nil => simp at hl3
  | cons c lr => exact ⟨c,lr,rfl⟩
 obtain ⟨ci,cver⟩ := c
 have hci : 0 ≤ ci ∧ ci < P.sites.length := by
  simp [okFrom] at hokf
  omega
 obtain ⟨m,hm⟩ := Int.eq_ofNat_of_zero_le hci.1
 subst hm
 have hml : m < P.sites.length := by omega
 have hcb : claimedB P.sites.length (⟨m,cver⟩ :: lr) = true := by simp only [claimedB,Bool.and_eq_true,decide_eq_true_eq]; exact ⟨⟨hl3,hl4⟩,hokf⟩
 have hlb : (⟨(m : Int),cver⟩ :: lr : List Clm).length ≤ 64 := hl4
 obtain ⟨l,hl⟩ : ∃ l,l = (⟨(m : Int),cver⟩ :: lr : List Clm) := ⟨_,rfl⟩
 rw [← hl] at hr hcb hlb
 rw [← hl]
 have hfi : P.props.findIdx? (fun x => x.1 == n) = none := by
  unfold find at hf
  rw [Option.map_eq_none_iff,List.find?_eq_none] at hf
  rw [List.findIdx?_eq_none_iff]
  intro x hx
  simpa using hf x hx
 have HL := Lib.hid hl
 have HP := Lib.hid hP
 have HR := Lib.hid hr
 have HCB := Lib.hid hcb
 have HF := Lib.hid hf
 have HFI := Lib.hid hfi
 have hk0 := hP.k0
 have hn1' : decide (n < 0) = false := by simp; omega
 have hn2' : decide (2147483647 < n) = false := by simp; omega
 clear hP hc h2 h3 h4 h5 hr hcb hf hfi hokf hl3 hl4 hci hl
 go_enter Try.func20,Try.ntmps20
 go_wp2_with (first
 | (
  go_at_call 69
  refine (claimed_ok P.sites.length A cap l w HR.out hok hs).mono ?_
  rw [HCB.out]
  rintro e w1 ⟨rfl,hF1⟩
  have c3' : w1.cell? ⟨P.ptr,3,none⟩ = some (.map (some P.pm)) := hF1.cellF c3
  have HP1 := Lib.hid (HP.out.fr hF1 (fun _ _ x => x))
  have hlk := look_prop HP1.out n
  rw [HF.out] at hlk
  simp only [propPtr] at hlk
  obtain ⟨es,clock,hpm,hes⟩ := HP1.out.pm
  have hsz : es.size = P.props.length := by have := congrArg List.length hes; simpa using this
  have hsz2 : (es.size : Int) < 4000 := by omega
  have hsz3 : decide ((4000 : Int) ≤ (es.size : Int)) = false := by simp; omega
  have hlr : ∀ ty,(Builtin.len_ #[110] ty #[.map (some P.pm)]).run Try.prog w1 = .ok (.int .i64 es.size) w1 := fun ty => run_len_map (P := Try.prog) (w := w1) (t := 110) (ty := ty) (r := P.pm) (es := es) (clock := clock) (by kernel_rfl) hpm
  have HR1 := Lib.hid (HR.out.frF hF1)
  have HF1 := Lib.hid hF1
  clear hF1 hes hsz)
 | (
  go_at_call 70
  refine (clone70_ok (k,11,n) l.length (claims l) w1 HR1.out HF1.out.dom (by omega)).mono ?_
  rintro e w2 ⟨v',rfl,tag2,hrow,hF2⟩
  obtain ⟨B,cap2,rfl,g1,g2⟩ := hrow.form
  have hP2 := HP1.out.fr hF2 (fun _ _ x => x)
  have hF3 : Fr (fun _ => False) tag2 (give tag2 w2.heap.size (k,10,n)) w2 (w2.alloc (.cells #[.slice B l.length cap2,.int .i64 1,.int .i64 0] 133)) := Fr.give_alloc hF2.dom _ _
  have hpm3 := hP2.pm.fr hF3 (fun x => x)
  obtain ⟨w4,hrun,⟨o,ho⟩,hm4⟩ := run_put_new (P := Try.prog) (T := 110) (K := 3) (E := 130) (fun x : Int × PropM => x.1) (fun x => .pointer (some ⟨x.2.ptr,0,none⟩)) hpm3 Try.underlying110 Try.underlying3 n (.pointer (some ⟨w2.heap.size,0,none⟩)) HFI.out
  have hF4 : Fr (· = (k,4,0)) (give tag2 w2.heap.size (k,10,n)) (give tag2 w2.heap.size (k,10,n)) (w2.alloc (.cells #[.slice B l.length cap2,.int .i64 1,.int .i64 0] 133)) w4 := by
   rw [ho]; exact Fr.setObj (S:=(· = (k,4,0))) hF3.dom ((hF3.same _ hP2.pm.lt).trans hP2.tpm) o
  have hI3 : PropRep (give tag2 w2.heap.size (k,10,n)) k (w2.alloc (.cells #[.slice B l.length cap2,.int .i64 1,.int .i64 0] 133)) n { ptr := w2.heap.size,claims := l,state := 1,granted := 0 } :=
   ⟨give_at _ _ _,_,Go.Ng.heap_alloc_at _ _,hrow.fr hF3 (fun x => x)⟩
  have hP4 := hP2.add_prop (x := { ptr := w2.heap.size,claims := l,state := 1,granted := 0 }) (by simpa using hm4) (hI3.fr hF4 (by simp) (by simp)) ((hF3.mono (fun _ h => h.elim)).trans hF4) (fun _ h => h)
  have c3'' : (w2.alloc (.cells #[.slice B l.length cap2,.int .i64 1,.int .i64 0] 133)).cell? ⟨P.ptr,3,none⟩ = some (.map (some P.pm)) := hF3.cellF (hF2.cellF c3')
  have HF4 := Lib.hid (((((HF1.out.trans hF2).trans hF3).mono (fun _ h => h.elim)).trans hF4).mono (S' := fun t => t.1 = k) (fun t h => by rw [h]))
  have HP4 := Lib.hid hP4
  clear ho hm4 hF4 hI3 hP4 hpm3 hF3 hP2 hrow hF2 hpm)
 | (
  go_at_call 71
  refine (ask_ok (x := { ptr := w2.heap.size,claims := l,state := 1,granted := 0 }) (m := m) (cver := cver) HP4.out HF4.out.dom (by simp) (by rw [HL.out]; rfl) hml (by show P.out.length ≤ _; omega)).mono ?_
  rintro e w5 ⟨rfl,tag5,hP5,hF5⟩
  have HP5 := Lib.hid hP5
  have HF5 := Lib.hid hF5
  clear hP5 hF5)
 | (
  go_at_call 72
  refine (told_ok HP5.out HF5.out.dom).mono ?_
  rintro e w6 ⟨ov,cv,rfl,ho,hc,hP6,hF6⟩
  have HO := Lib.hid ho
  have HC := Lib.hid hc
  have HP6 := Lib.hid hP6
  have HF6 := Lib.hid hF6
  clear ho hc hP6 hF6))
 go_ret3
 have he : proposeM P n l w2.heap.size = ({ P with props := P.props ++ [(n,({ ptr := w2.heap.size,claims := l,state := 1,granted := 0 } : PropM))] } : PlaceM).send 1 (P.site m) n m cver := by
  rw [HL.out]; rfl
 refine ⟨ov,cv,rfl,tag5,w2.heap.size,?_⟩
 rw [he]
 exact ⟨HO.out,HC.out,HP6.out,(HF4.out.trans (HF5.out.mono (fun t h => by rcases h with h | h <;> rw [h]))).trans (HF6.out.mono (fun t (h : t = _) => by rw [h]))⟩
def dropM (P : PlaceM) (n : Int) (x : PropM) : PlaceM :=
 match x.claims[x.granted]? with
 | none => P
 | some c => (freeM (setProp P n { x with state := 4 }) n (x.claims.take x.granted)).send 5 (P.site c.item) n c.item 0
theorem drop_ok {tag : Nat → Tag} {k : Nat} {P : PlaceM} {w : World} {n : Int} {x : PropM} (hP : PRep tag k w P) (hok : TagOk tag w) (hW : WF P) (hf : find P.props n = some x) (hst : x.state = 1)
  (hout : P.out.length ≤ 100000) :
  Calls Try.prog 23 #[.pointer (some ⟨P.ptr,0,none⟩),.int .i64 n] w fun e w' => ∃ ov,e = .returned (.tuple #[ov,.int .i64 0]) ∧
   ∃ tag',Row tag' (k,5,0) 49 6 w' ov (dropM P n x).out.length (posts (dropM P n x).out) ∧ PRep tag' k w' { dropM P n x with out := [],came := [] } ∧ Fr (fun t => t.1 = k) tag tag' w w' := by
 have hx := find_mem hf
 have hu : ∀ y,(n,y) ∈ P.props → y = x := fun y hy => hW.uniq _ _ _ hy hx
 have hlt := hW.opens _ _ hx hst
 have hle := hW.le _ _ hx
 have hfew := hW.few _ _ hx
 have hcl := hW.claims _ _ hx
 obtain ⟨⟨ci,cver⟩,hg⟩ : ∃ c,x.claims[x.granted]? = some c := ⟨_,List.getElem?_eq_getElem hlt⟩
 obtain ⟨m,hm,hml⟩ := hcl _ (List.mem_of_getElem? hg)
 simp only at hm
 subst hm
 have hlk := look_prop hP n
 rw [hf] at hlk
 simp only [propPtr] at hlk
 obtain ⟨sv,iv,ov,cv,hc,h2,h3,h4,h5⟩ := hP.cells
 have c3 : w.cell? ⟨P.ptr,3,none⟩ = some (.map (some P.pm)) := cell_of hc 3
 have hpl := lt_of_heap hc
 obtain ⟨xv,hxc,hxr⟩ := (hP.props _ x hx).cells
 have x1 : w.cell? ⟨x.ptr,1,none⟩ = some (.int .i64 1) := by rw [cell_of hxc 1,← hst]; rfl
 have f1 := free_of hxc 1
 have hxl := lt_of_heap hxc
 obtain ⟨hP2,hF2⟩ := hP.set_state hok hx hu 4
 have hdm : dropM P n x = (freeM (setProp P n { x with state := 4 }) n (x.claims.take x.granted)).send 5 (P.site m) n m 0 := by simp [dropM,hg]
 have hsm := freeM_same n (x.claims.take x.granted) (setProp P n { x with state := 4 })
 have HDM := Lib.hid hdm
 have HSM := Lib.hid hsm
 have HP2 := Lib.hid hP2
 have HF2 := Lib.hid hF2
 have HX := Lib.hid hx
 have HCL := Lib.hid hcl
 have HG := Lib.hid hg
 have hi0 : (0 : Int) ≤ (x.granted : Int) := by omega
 have hi1 : (x.granted : Int) < (x.claims.length : Int) := by omega
 have hm0 : (0 : Int) ≤ (m : Int) := by omega
 have hm1 : (m : Int) < (P.sites.length : Int) := by omega
 clear hP hc h2 h3 h4 h5 hxc hxr hP2 hF2 hx hu hcl hg hf hst hdm hsm hW
 go_enter Try.func23,Try.ntmps23
 go_wp2_with (first
 | (
  go_at_call 76
  refine (free_ok (x := { x with state := 4 }) HP2.out HF2.out.dom (mem_upd HX.out) hle HCL.out (by show P.out.length + x.claims.length ≤ 1000000; omega)).mono ?_
  rintro e w3 ⟨rfl,tag3,hP3,hF3⟩
  have hx3 := hP3.props n { x with state := 4 } (by rw [HSM.out.2.2.2.1]; exact mem_upd HX.out)
  obtain ⟨sv3,iv3,ov3,cv3,hc3,g2,g3,g4,g5⟩ := hP3.cells
  rw [HSM.out.1] at hc3
  rw [HSM.out.2.1] at g2
  obtain ⟨yv,hyc,hyr⟩ := hx3.cells
  obtain ⟨yb,hyv,_,hyb,hce⟩ := (by
   obtain ⟨A,cap,rfl,q1,q2⟩ := hyr.form
   obtain ⟨b,rfl,q4,q5,q6⟩ := Row.elem (enc := Clm.cells) hyr (fun _ => rfl) (by decide) HG.out
   exact ⟨b,⟨cap,rfl,q1,q2⟩,q4,q5,q6⟩ : ∃ b,(∃ cap,yv = .slice (some ⟨b,0,none⟩) x.claims.length cap ∧ x.claims.length ≤ cap ∧ cap ≤ maxLen) ∧ tag3 b = (k,11,n) ∧ b < w3.heap.size ∧ ∀ i u,(Clm.cells ⟨m,cver⟩)[i]? = some u → w3.cell? ⟨b,x.granted * 2 + i,none⟩ = some u)
  obtain ⟨ycap,rfl,q1,q2⟩ := hyv
  unfold maxLen at q2
  obtain ⟨sb,scap,hsv,hq1,hq2,hsc⟩ := PRep.site_cell (P := P) g2 hml
  subst hsv
  unfold maxLen at hq2
  have z0 : w3.cell? ⟨x.ptr,0,none⟩ = some (.slice (some ⟨yb,0,none⟩) x.claims.length ycap) := cell_of hyc 0
  have z2 : w3.cell? ⟨x.ptr,2,none⟩ = some (.int .i64 x.granted) := cell_of hyc 2
  have e0 : w3.cell? ⟨yb,x.granted * 2,none⟩ = some (.int .i64 m) := hce 0 _ rfl
  have e1 : w3.cell? ⟨yb,x.granted * 2 + 1,none⟩ = some (.int .i64 cver) := hce 1 _ rfl
  have d1 : w3.cell? ⟨P.ptr,1,none⟩ = some (.slice (some ⟨sb,0,none⟩) P.sites.length scap) := cell_of hc3 1
  have HP3 := Lib.hid hP3
  have HF3 := Lib.hid hF3
  have hok3 := hF3.dom
  clear hP3 hF3 hx3 hc3 g2 g3 g4 g5 hyc hyr hce c3 x1 f1 hlk))
 refine start_ (n:=12) (S:=fun w' => w'.cell? ⟨x.ptr,0,none⟩ = some (.slice (some ⟨yb,0,none⟩) x.claims.length ycap) ∧ w'.cell? ⟨x.ptr,2,none⟩ = some (.int .i64 x.granted) ∧ w'.cell? ⟨yb,x.granted * 2,none⟩ = some (.int .i64 m) ∧ w'.cell? ⟨yb,x.granted * 2 + 1,none⟩ = some (.int .i64 cver)) (ds := [11]) #[f_,f_,f_,f_,f_,f_,f_,f_,f_,f_,f_,f_] (by kernel_rfl) rfl rfl ⟨z0,z2,e0,e1⟩ (fun hHeld => ?_)
 refine pv_ (i:=0) (N:=some 34) (v:=?_) (a':=?_) rfl rfl (by kernel_rfl) (fun _ _ _ h => h) (Or.inl ⟨by rfl,?_⟩) ?_ ?_
 rotate_left;intro w';go_simp;with_reducible rfl;rotate_left;simp only [Act.put,sA_,sB_,sC_,i64_w,i32_w];rfl
 refine pv_ (i:=1) (N:=some 35) (v:=?_) (a':=?_) rfl rfl (by kernel_rfl) (fun _ _ _ h => h) (Or.inl ⟨by rfl,?_⟩) ?_ ?_
 rotate_left;intro w';go_simp;with_reducible rfl;rotate_left;simp only [Act.put,sA_,sB_,sC_,i64_w,i32_w];rfl
 refine pv_ (i:=2) (N:=some 36) (v:=?_) (a':=?_) rfl rfl (by kernel_rfl) (fun _ _ _ h => h) (Or.inl ⟨by rfl,?_⟩) ?_ ?_
 rotate_left;intro w';go_simp;with_reducible rfl;rotate_left;simp only [Act.put,sA_,sB_,sC_,i64_w,i32_w];rfl
 refine pv_ (i:=4) (N:=some 38) (v:=?_) (a':=?_) rfl rfl (by kernel_rfl) (fun _ _ _ h => h) (Or.inl ⟨by rfl,?_⟩) ?_ ?_
 rotate_left;intro w';go_simp;with_reducible rfl;rotate_left;simp only [Act.put,sA_,sB_,sC_,i64_w,i32_w];rfl
 refine pv_ (i:=5) (N:=some 39) (v:=?_) (a':=?_) rfl rfl (by kernel_rfl) (fun _ _ _ h => h) (Or.inl ⟨by rfl,?_⟩) ?_ ?_
 rotate_left;intro w';go_simp;with_reducible rfl;rotate_left;simp only [Act.put,sA_,sB_,sC_,i64_w,i32_w];rfl
 refine pv_ (i:=6) (N:=some 40) (v:=?_) (a':=?_) rfl rfl (by kernel_rfl) (fun _ _ _ h => h) (Or.inl ⟨by rfl,?_⟩) ?_ ?_
 rotate_left;intro w';go_simp;with_reducible rfl;rotate_left;simp only [Act.put,sA_,sB_,sC_,i64_w,i32_w];rfl
 refine tv_ (i:=3) (N:=some 37) (v:=?_) (a':=?_) rfl rfl (by kernel_rfl) (fun _ _ _ h => h) (Or.inl ⟨by rfl,?_⟩) hHeld ?_ ?_
 rotate_left;rintro w' ⟨s0,s1,s2,s3⟩;go_simp;with_reducible rfl;rotate_left;simp only [Act.put,sA_,sB_,sC_,i64_w,i32_w];rfl
 refine tv_ (i:=7) (N:=some 41) (v:=?_) (a':=?_) rfl rfl (by kernel_rfl) (fun _ _ _ h => h) (Or.inl ⟨by rfl,?_⟩) hHeld ?_ ?_
 rotate_left;rintro w' ⟨s0,s1,s2,s3⟩;go_simp;with_reducible rfl;rotate_left;simp only [Act.put,sA_,sB_,sC_,i64_w,i32_w];rfl
 refine pv_ (i:=8) (N:=some 42) (v:=?_) (a':=?_) rfl rfl (by kernel_rfl) (fun _ _ _ h => h) (Or.inl ⟨by rfl,?_⟩) ?_ ?_
 rotate_left;intro w';go_simp;with_reducible rfl;rotate_left;simp only [Act.put,sA_,sB_,sC_,i64_w,i32_w];rfl
 refine tv_ (i:=9) (N:=some 43) (v:=?_) (a':=?_) rfl rfl (by kernel_rfl) (fun _ _ _ h => h) (Or.inl ⟨by rfl,?_⟩) hHeld ?_ ?_
 rotate_left;rintro w' ⟨s0,s1,s2,s3⟩;go_simp;with_reducible rfl;rotate_left;simp only [Act.put,sA_,sB_,sC_,i64_w,i32_w];rfl
 refine one_ (i:=10) (N:=some 7) #[t_,t_,t_,t_,t_,t_,t_,t_,t_,t_,t_,f_] rfl rfl (by kernel_rfl) (by decide) (fun K hK => ?_)
 refine value_ (w1:=?_) (v:=?_) (by rfl) rfl ?_ ?_
 rotate_left 2
 ·go_simp
  constructor
  ·rfl
  ·rfl
 refine hK.out _ _ ⟨(ca hHeld.1 _),(ca hHeld.2.1 _),(ca hHeld.2.2.1 _),(ca hHeld.2.2.2 _)⟩ (fun hHeld => ?_)
 clear hK K
 refine norm_ (a':=?_) ?_ ?_
 rotate_left
 ·show Act.put _ (some 7) _ = _
  simp only [Act.put,sA_,sB_,sC_,i64_w,i32_w]
  rfl
 refine last_ (i:=11) (N:=none) #[t_,t_,t_,t_,t_,t_,t_,t_,t_,t_,t_,t_] rfl rfl (by kernel_rfl) (by decide) (fun K hK => ?_)
 refine skip_ (w1:=?_) (by rfl) rfl ?_ ?_
 rotate_left
 ·go_simp
  rfl
 refine hK.out _ _ ?_
 clear hK K
 refine done_ (by kernel_rfl) ?_
 clear hHeld z0 z2 e0 e1
 obtain ⟨w4,hw4⟩ : ∃ w4,w4 = (w3.alloc (.cells #[.int .i64 (m : Int),.int .i64 cver] 69)).drew := ⟨_,rfl⟩
 rw [← hw4]
 have hF4 : Fr (fun _ => False) tag3 tag3 w3 w4 := by rw [hw4]; exact ((Fr.refl hok3).al _).dr
 have a0 : w4.cell? ⟨w3.heap.size,0,none⟩ = some (.int .i64 m) := by rw [hw4]; go_simp
 have d1' := hF4.cellF d1
 have hsc' := hF4.cellF hsc
 have HP4 := Lib.hid (HP3.out.fr hF4 (fun _ _ y => y))
 have HF4 := Lib.hid hF4
 have hok4 := hF4.dom
 clear hw4 hF4 d1 hsc
 go_wp2_with fail
 refine start_ (n:=13) (S:=fun w' => w'.cell? ⟨P.ptr,1,none⟩ = some (.slice (some ⟨sb,0,none⟩) P.sites.length scap) ∧ w'.cell? ⟨w3.heap.size,0,none⟩ = some (.int .i64 m) ∧ w'.cell? ⟨sb,m,none⟩ = some (.int .i64 (P.site m))) (ds := [12]) #[f_,f_,f_,f_,f_,f_,f_,f_,f_,f_,f_,f_,f_] (by kernel_rfl) rfl rfl ⟨d1',a0,hsc'⟩ (fun hHeld => ?_)
 refine pv_ (i:=0) (N:=some 44) (v:=?_) (a':=?_) rfl rfl (by kernel_rfl) (fun _ _ _ h => h) (Or.inl ⟨by rfl,?_⟩) ?_ ?_
 rotate_left;intro w';go_simp;with_reducible rfl;rotate_left;simp only [Act.put,sA_,sB_,sC_,i64_w,i32_w];rfl
 refine pv_ (i:=1) (N:=some 45) (v:=?_) (a':=?_) rfl rfl (by kernel_rfl) (fun _ _ _ h => h) (Or.inl ⟨by rfl,?_⟩) ?_ ?_
 rotate_left;intro w';go_simp;with_reducible rfl;rotate_left;simp only [Act.put,sA_,sB_,sC_,i64_w,i32_w];rfl
 refine pv_ (i:=2) (N:=some 46) (v:=?_) (a':=?_) rfl rfl (by kernel_rfl) (fun _ _ _ h => h) (Or.inl ⟨by rfl,?_⟩) ?_ ?_
 rotate_left;intro w';go_simp;with_reducible rfl;rotate_left;simp only [Act.put,sA_,sB_,sC_,i64_w,i32_w];rfl
 refine pv_ (i:=3) (N:=some 47) (v:=?_) (a':=?_) rfl rfl (by kernel_rfl) (fun _ _ _ h => h) (Or.inl ⟨by rfl,?_⟩) ?_ ?_
 rotate_left;intro w';go_simp;with_reducible rfl;rotate_left;simp only [Act.put,sA_,sB_,sC_,i64_w,i32_w];rfl
 refine pv_ (i:=5) (N:=some 49) (v:=?_) (a':=?_) rfl rfl (by kernel_rfl) (fun _ _ _ h => h) (Or.inl ⟨by rfl,?_⟩) ?_ ?_
 rotate_left;intro w';go_simp;with_reducible rfl;rotate_left;simp only [Act.put,sA_,sB_,sC_,i64_w,i32_w];rfl
 refine pv_ (i:=9) (N:=some 53) (v:=?_) (a':=?_) rfl rfl (by kernel_rfl) (fun _ _ _ h => h) (Or.inl ⟨by rfl,?_⟩) ?_ ?_
 rotate_left;intro w';go_simp;with_reducible rfl;rotate_left;simp only [Act.put,sA_,sB_,sC_,i64_w,i32_w];rfl
 refine pv_ (i:=10) (N:=some 54) (v:=?_) (a':=?_) rfl rfl (by kernel_rfl) (fun _ _ _ h => h) (Or.inl ⟨by rfl,?_⟩) ?_ ?_
 rotate_left;intro w';go_simp;with_reducible rfl;rotate_left;simp only [Act.put,sA_,sB_,sC_,i64_w,i32_w];rfl
 refine tv_ (i:=4) (N:=some 48) (v:=?_) (a':=?_) rfl rfl (by kernel_rfl) (fun _ _ _ h => h) (Or.inl ⟨by rfl,?_⟩) hHeld ?_ ?_
 rotate_left;rintro w' ⟨s0,s1,s2⟩;go_simp;with_reducible rfl;rotate_left;simp only [Act.put,sA_,sB_,sC_,i64_w,i32_w];rfl
 refine tv_ (i:=6) (N:=some 50) (v:=?_) (a':=?_) rfl rfl (by kernel_rfl) (fun _ _ _ h => h) (Or.inl ⟨by rfl,?_⟩) hHeld ?_ ?_
 rotate_left;rintro w' ⟨s0,s1,s2⟩;go_simp;with_reducible rfl;rotate_left;simp only [Act.put,sA_,sB_,sC_,i64_w,i32_w];rfl
 refine pv_ (i:=7) (N:=some 51) (v:=?_) (a':=?_) rfl rfl (by kernel_rfl) (fun _ _ _ h => h) (Or.inl ⟨by rfl,?_⟩) ?_ ?_
 rotate_left;intro w';go_simp;with_reducible rfl;rotate_left;simp only [Act.put,sA_,sB_,sC_,i64_w,i32_w];rfl
 refine tv_ (i:=8) (N:=some 52) (v:=?_) (a':=?_) rfl rfl (by kernel_rfl) (fun _ _ _ h => h) (Or.inl ⟨by rfl,?_⟩) hHeld ?_ ?_
 rotate_left;rintro w' ⟨s0,s1,s2⟩;go_simp;with_reducible rfl;rotate_left;simp only [Act.put,sA_,sB_,sC_,i64_w,i32_w];rfl
 refine tv_ (i:=11) (N:=some 55) (v:=?_) (a':=?_) rfl rfl (by kernel_rfl) (fun _ _ _ h => h) (Or.inl ⟨by rfl,?_⟩) hHeld ?_ ?_
 rotate_left;rintro w' ⟨s0,s1,s2⟩;go_simp;with_reducible rfl;rotate_left;simp only [Act.put,sA_,sB_,sC_,i64_w,i32_w];rfl
 refine last_ (i:=12) (N:=some 56) #[t_,t_,t_,t_,t_,t_,t_,t_,t_,t_,t_,t_,t_] rfl rfl (by kernel_rfl) (by decide) (fun K hK => ?_)
 refine goes_ Try.func77 (by kernel_rfl) rfl #[.pointer (some ⟨P.ptr,0,none⟩),.int .i64 5,.int .i64 (P.site m),.int .i64 n,.int .i64 m,.int .i64 0] (by rfl) rfl rfl (by simp only [List.map_toArray,List.map_cons,List.map_nil]; rfl) ?_
 rw [show P.ptr = (freeM (setProp P n { x with state := 4 }) n (x.claims.take x.granted)).ptr from HSM.out.1.symm]
 refine (send_ok 5 (P.site m) n m 0 (HP4.out.drew hok4) hok4.drew (by rw [HSM.out.2.2.2.2.2.2.1,List.length_take]; show P.out.length + _ ≤ _; omega)).mono ?_
 rw [show (freeM (setProp P n { x with state := 4 }) n (x.claims.take x.granted)).ptr = P.ptr from HSM.out.1]
 rintro e w5 ⟨rfl,tag5,hP5,hF5⟩
 refine ⟨_,rfl,?_⟩
 refine hK.out _ _ ?_
 clear hK K
 refine norm_ (a':=?_) ?_ ?_
 rotate_left
 ·show Act.put _ (some 56) _ = _
  simp only [Act.put,sA_,sB_,sC_,i64_w,i32_w]
  rfl
 refine done_ (by kernel_rfl) ?_
 have HP5 := Lib.hid hP5
 have HF5 := Lib.hid ((HF4.out.dr.mono (fun _ h => h.elim)).trans hF5)
 clear hHeld hP5 hF5 d1' a0 hsc'
 have hpp : ((freeM (setProp P n { x with state := 4 }) n (x.claims.take x.granted)).send 5 (P.site m) n m 0).ptr = P.ptr := HSM.out.1
 have HPP := Lib.hid hpp
 clear hpp
 go_wp2_with (
  go_at_call 72
  rw [← HPP.out]
  refine (told_ok HP5.out HF5.out.dom).mono ?_
  rintro e w6 ⟨ov,cv,rfl,ho,hc,hP6,hF6⟩
  have HO := Lib.hid ho
  have HP6 := Lib.hid hP6
  have HF6 := Lib.hid hF6
  clear ho hc hP6 hF6)
 go_ret2
 rw [HDM.out]
 exact ⟨ov,rfl,tag5,HO.out,HP6.out,((HF2.out.mono (fun t (h : t = _) => by rw [h])).trans (HF3.out.mono (fun t h => by rcases h with h | h <;> rw [h]))).trans ((HF5.out.mono (fun t h => by rcases h with h | h <;> rw [h])).trans (HF6.out.mono (fun t (h : t = _) => by rw [h])))⟩
end Go.Proofs.Ytclkokkppgchfaa
