/- A part of the proof: texts of this session, joined. -/
import Derived.Test.YtjojbhkgdkcaoaaGreatPart1
import Derived.Laws.World
import Derived.Laws.Cells
import Derived.Laws.BytesString
import Derived.Test.YtjojbhkgdkcaoaaGreatShort
set_option linter.unusedSimpArgs false
set_option linter.unusedVariables false
namespace Go.Ev
open Go
section
variable {P : Program} {σ : Sg}
def OptR (σ : Sg) : Option LV → Option Value → Prop
  | none,none => True
  | some v,some v' => v.re σ = some v'
  | _,_ => False
theorem optR_map {t : Tr LV} {ρ : Operand → Value} (hρ : ∀ x,(ev t x).re σ = some (ρ x)) (o : Option Operand) : OptR σ (o.map (ev t)) (o.map ρ) := by
  cases o with
  | none => trivial
  | some x => exact hρ x
theorem optV_spec {lo : Option LV} {lo' x : Option Value} (h : OptR σ lo lo') (k : optV lo = some x) : x = lo' := by
  unfold optV at k
  split at k
  · cases k; cases lo' with
    | none => rfl
    | some v => exact h.elim
  · cases k; cases lo' with
    | none => exact h.elim
    | some v => have : some _ = some v := h; simpa [LV.re] using this
  · cases k
theorem natOr_spec {lo : Option LV} {lo' : Option Value} {d n : Nat} (h : OptR σ lo lo') (k : natOr lo d = some n) : (lo = none ∧ lo' = none ∧ n = d) ∨ ∃ i,lo' = some (.int i n) := by
  unfold natOr at k
  split at k
  · cases k; cases lo' with
    | none => exact .inl ⟨rfl,rfl,rfl⟩
    | some v => exact h.elim
  · cases lo' with
    | none => exact h.elim
    | some v' => obtain ⟨i,rfl⟩ := asNat_spec k h; exact .inr ⟨i,rfl⟩
theorem addr_add (β off n : Nat) : (⟨β,off,none⟩ : Addr).add n = ⟨β,off + n,none⟩ := by
  unfold Addr.add
  split
  · rename_i h; subst h; rfl
  · rfl
theorem bound_run {i : IntKind} {n y : Nat} (h : n ≤ y) (c : BoundsCode) (w : World) : (Instr.sliceBound (.int i n) y c).run P w = .ok n w := by
  have h0 : ((0 : Int) ≤ (n : Int) ∧ (n : Int) ≤ (y : Int)) := ⟨Int.natCast_nonneg n,by omega⟩
  simp [Instr.sliceBound,asIntOf,h0]
theorem bounds_run {s : Bool} {len cap l hh m : Nat} {lo hi mx : Option LV} {lo' hi' mx' : Option Value} (h1 : OptR σ lo lo') (h2 : OptR σ hi hi') (h3 : OptR σ mx mx')
    (k1 : natOr lo 0 = some l) (k2 : natOr hi len = some hh) (k3 : natOr mx cap = some m) (hb : bndOK hi mx = true) (a : l ≤ hh) (b : hh ≤ m) (c : m ≤ cap) (w : World) :
    (Instr.sliceBounds s len cap lo' hi' mx').run P w = .ok (l,hh,m) w := by
  rcases natOr_spec h1 k1 with ⟨rfl,rfl,rfl⟩ | ⟨i1,rfl⟩ <;> rcases natOr_spec h2 k2 with ⟨rfl,rfl,rfl⟩ | ⟨i2,rfl⟩ <;> rcases natOr_spec h3 k3 with ⟨rfl,rfl,rfl⟩ | ⟨i3,rfl⟩
  · simp [Instr.sliceBounds]
  · cases mx with
    | none => exact h3.elim
    | some v => simp [bndOK] at hb
  · simp [Instr.sliceBounds,bound_run b]
  · simp [Instr.sliceBounds,bound_run b,bound_run c]
  · simp [Instr.sliceBounds,bound_run a]
  · cases mx with
    | none => exact h3.elim
    | some v => simp [bndOK] at hb
  · simp [Instr.sliceBounds,bound_run a,bound_run b]
  · simp [Instr.sliceBounds,bound_run a,bound_run b,bound_run c]
theorem cutL_spec {b off size l hh m cap : Nat} {r : LV} (h : cutL b off size l hh m cap = .ok r) :
    l ≤ hh ∧ hh ≤ m ∧ m ≤ cap ∧ r = .slice b (if m = l then off else off + l * size) (hh - l) (m - l) false := by
  unfold cutL at h
  simp only [ble_dec,beq_dec,cond_eq_ite,Bool.and_eq_true,decide_eq_true_eq] at h
  split at h
  · rename_i hc; cases h; exact ⟨hc.1,hc.2.1,hc.2.2,rfl⟩
  · cases h
theorem cutL_no {b off size l hh m cap : Nat} {r : Value} : cutL b off size l hh m cap ≠ .panic r := by
  unfold cutL
  cases (Nat.ble l hh && (Nat.ble hh m && Nat.ble m cap)) <;> simp
theorem pSlice_ok {ty : TypeId} {x : LV} {x' : Value} {lo hi mx : Option LV} {lo' hi' mx' : Option Value} (hx : x.re σ = some x') (h1 : OptR σ lo lo') (h2 : OptR σ hi hi') (h3 : OptR σ mx mx') :
    PV P σ (Instr.sliceAt ty x' lo' hi' mx') (pSlice P ty x lo hi mx) := by
  unfold pSlice
  split
  · simp [LV.re] at hx; subst hx
    unfold pSliceV
    split
    · rename_i a b c k1 k2 k3
      rw [optV_spec h1 k1,optV_spec h2 k2,optV_spec h3 k3]
      exact pv_look _
    · trivial
  · rename_i b off len cap
    unfold pSliceS
    split
    · rename_i elem hs
      have hu := shape_slice hs
      split
      · rename_i size l hh m k0 k1 k2 k3
        cases hb : bndOK hi mx with
        | false => trivial
        | true =>
          simp only [cond_true]
          cases hc : cutL b off size l hh m cap with
          | no => trivial
          | panic v => exact (cutL_no hc).elim
          | ok r =>
            obtain ⟨a1,a2,a3,rfl⟩ := cutL_spec hc
            simp only [LV.re] at hx
            split at hx
            · rename_i p hp
              cases hx
              refine ⟨.slice (some ⟨p.1,if m = l then off else off + l * size,none⟩) (hh - l) (m - l),by simp [LV.re,hp],fun w => ?_⟩
              simp only [Instr.sliceAt,Sem.run_bind,underlying_run hu,Result.andThen_ok,Instr.slice,cond_false,bounds_run h1 h2 h3 k1 k2 k3 hb a1 a2 a3,sizeOf_run k0,Sem.run_pure]
              by_cases e : m = l
              · simp [e]
              · simp [e,addr_add]
            · cases hx
      · trivial
    · trivial
  · rename_i b off
    unfold pSliceA
    split
    · rename_i n elem hs
      have hu := arrOf_spec hs
      split
      · rename_i size l hh m k0 k1 k2 k3
        cases hb : bndOK hi mx with
        | false => trivial
        | true =>
          simp only [cond_true]
          cases hc : cutL b off size l hh m n with
          | no => trivial
          | panic v => exact (cutL_no hc).elim
          | ok r =>
            obtain ⟨a1,a2,a3,rfl⟩ := cutL_spec hc
            simp only [LV.re] at hx
            split at hx
            · rename_i p hp
              cases hx
              refine ⟨.slice (some ⟨p.1,if m = l then off else off + l * size,none⟩) (hh - l) (m - l),by simp [LV.re,hp],fun w => ?_⟩
              simp only [Instr.sliceAt,Instr.sureAddr,Sem.run_bind,underlying_run hu,Result.andThen_ok,bounds_run h1 h2 h3 k1 k2 k3 hb a1 a2 a3,sizeOf_run k0,Sem.run_pure]
              by_cases e : m = l
              · simp [e]
              · simp [e,addr_add]
            · cases hx
      · trivial
    · trivial
  · trivial
theorem pFieldAddr_ok {s : TypeId} {x : LV} {x' : Value} {f : Nat} (hx : x.re σ = some x') : PV P σ (Instr.fieldAt s x' f) (pFieldAddr P s x f) := by
  unfold pFieldAddr
  split
  · rename_i b off
    split
    · rename_i o n ty hf
      obtain ⟨fs,fd,hu,hg,rfl,rfl,hsz⟩ := fieldAt_spec hf
      simp only [beq_dec,cond_eq_ite,decide_eq_true_eq]
      split
      · trivial
      · rename_i hn
        simp only [LV.re] at hx
        split at hx
        · rename_i p hp
          cases hx
          refine ⟨.pointer (some ⟨p.1,off + fd.offset,none⟩),by simp [LV.re,hp],fun w => ?_⟩
          simp [Instr.fieldAt,underlying_run hu,hg,Instr.sureAddr,fieldPlace,sizeOf_run hsz,hn,addr_add]
        · cases hx
    · trivial
  · trivial
theorem pField_ok {s : TypeId} {x : LV} {x' : Value} {f : Nat} (hx : x.re σ = some x') : PV P σ (Instr.field s x' f) (pField P s x f) := by
  unfold pField
  split
  · simp [LV.re] at hx; subst hx; exact pv_look _
  · rename_i cs
    split
    · rename_i o n ty hf
      obtain ⟨fs,fd,hu,hg,rfl,rfl,hsz⟩ := fieldAt_spec hf
      refine pv_opt fun v hv => ?_
      simp only [LV.re] at hx
      split at hx
      · rename_i l hl
        cases hx
        obtain ⟨r',h1,h2⟩ := part_run hv hl
        exact ⟨r',h1,fun w => by simp [Instr.field,underlying_run hu,hg,asAgg,h2]⟩
      · cases hx
    · trivial
  · trivial
theorem pIndexAddr_ok {ty : TypeId} {x ix : LV} {x' ix' : Value} (hx : x.re σ = some x') (hi : ix.re σ = some ix') : PV P σ (Instr.indexAt ty x' ix') (pIndexAddr P ty x ix) := by
  unfold pIndexAddr
  split
  · rename_i n hn
    obtain ⟨k,rfl⟩ := asNat_spec hn hi
    have h0 : (0 : Int) ≤ (n : Int) := Int.natCast_nonneg n
    split
    · rename_i b off len cap op
      unfold pIdxS
      split
      · rename_i elem hs
        have hu := shape_slice hs
        split
        · rename_i size hsz
          simp only [blt_dec,cond_eq_ite,decide_eq_true_eq]
          split
          · rename_i hlt
            simp only [LV.re] at hx
            split at hx
            · rename_i p hp
              cases hx
              have h1 : ((0 : Int) ≤ (n : Int) ∧ (n : Int) < (len : Int)) := ⟨h0,by omega⟩
              refine ⟨.pointer (some ⟨p.1,off + n * size,none⟩),by simp [LV.re,hp],fun w => ?_⟩
              simp [Instr.indexAt,asIntOf,underlying_run hu,hlt,sizeOf_run hsz,addr_add]
            · cases hx
          · trivial
        · trivial
      · trivial
    · rename_i b off
      unfold pIdxA
      split
      · rename_i len elem hs
        have hu := arrOf_spec hs
        split
        · rename_i size hsz
          simp only [blt_dec,cond_eq_ite,decide_eq_true_eq]
          split
          · rename_i hlt
            simp only [LV.re] at hx
            split at hx
            · rename_i p hp
              cases hx
              refine ⟨.pointer (some ⟨p.1,off + n * size,none⟩),by simp [LV.re,hp],fun w => ?_⟩
              simp [Instr.indexAt,asIntOf,underlying_run hu,Instr.sureAddr,hlt,sizeOf_run hsz,addr_add]
            · cases hx
          · trivial
        · trivial
      · trivial
    · trivial
  · trivial
theorem pIndex_ok {ty : TypeId} {x ix : LV} {x' ix' : Value} (hx : x.re σ = some x') (hi : ix.re σ = some ix') : PV P σ (Instr.index ty x' ix') (pIndex P ty x ix) := by
  unfold pIndex
  split
  · simp [LV.re] at hx; subst hx
    unfold pIndexV
    split
    · simp [LV.re] at hi; subst hi; exact pv_look _
    · trivial
  · rename_i cs
    unfold pIndexG
    split
    · rename_i n len elem hn ha
      obtain ⟨k,rfl⟩ := asNat_spec hn hi
      have hu := arrOf_spec ha
      split
      · rename_i size hsz
        simp only [blt_dec,cond_eq_ite,decide_eq_true_eq]
        split
        · rename_i hlt
          refine pv_opt fun v hv => ?_
          simp only [LV.re] at hx
          split at hx
          · rename_i l hl
            cases hx
            obtain ⟨r',h1,h2⟩ := part_run hv hl
            exact ⟨r',h1,fun w => by simp [Instr.index,asIntOf,underlying_run hu,hlt,sizeOf_run hsz,h2]⟩
          · cases hx
        · trivial
      · trivial
    · trivial
  · trivial
theorem okPair_re {ok b : Bool} {v : LV} {v' : Value} (h : v.re σ = some v') : (okPair ok v b).re σ = some (if ok then .tuple #[v',.bool b] else v') := by
  cases ok
  · simpa [okPair] using h
  · simp [okPair,LV.re,LV.reL,h]
theorem pAssert_ok {x : LV} {x' : Value} {xt av : TypeId} {ok : Bool} (hx : x.re σ = some x') : PV P σ (Instr.typeAssert x' xt av ok) (pAssert P x xt av ok) := by
  unfold pAssert
  split
  · simp [LV.re] at hx; subst hx; exact pv_look _
  · rename_i ty v
    simp only [LV.re] at hx
    split at hx
    · rename_i v' hv
      cases hx
      unfold pAssertI
      split
      · trivial
      · rename_i s hne hs
        obtain ⟨d,hd,hsd⟩ := shape_spec hs
        have hni : ∀ m,d ≠ .interface m := fun m e => hne (by rw [← hsd,e]; rfl)
        simp only [beq_dec,cond_eq_ite,decide_eq_true_eq]
        split
        · rename_i e
          subst e
          refine ⟨_,okPair_re hv,fun w => ?_⟩
          cases d <;> first | exact absurd rfl (hni _) | simp [Instr.typeAssert,underlying_run hd]
        · rename_i hne2
          split
          · rename_i hok
            split
            · rename_i z hz
              refine ⟨.tuple #[z,.bool false],by simp [okPair,hok,LV.re,LV.reL],fun w => ?_⟩
              cases d <;> first | exact absurd rfl (hni _) | simp [Instr.typeAssert,underlying_run hd,hne2,hok,zeroV_run hz]
            · trivial
          · trivial
      · trivial
    · cases hx
  · trivial
theorem pExtract_ok {x : LV} {x' : Value} {ix : Nat} (hx : x.re σ = some x') : PV P σ (Instr.extract x' ix) (pExtract P x ix) := by
  unfold pExtract
  split
  · simp [LV.re] at hx; subst hx; exact pv_look _
  · rename_i vs
    refine pv_opt fun v hv => ?_
    simp only [LV.re] at hx
    split at hx
    · rename_i l hl
      cases hx
      obtain ⟨y,h1,h2⟩ := reL_get hl hv
      exact ⟨y,h2,fun w => by simp [Instr.extract,h1]⟩
    · cases hx
  · trivial
theorem firstShape_spec {argTypes : Array TypeId} {s : Sh} (h : firstShape P argTypes = some s) : ∃ ty d,argTypes[0]? = some ty ∧ P.underlying ty = some d ∧ shOf d = s := by
  unfold firstShape at h
  split at h
  · rename_i ty hty; obtain ⟨d,h1,h2⟩ := shape_spec h; exact ⟨ty,d,hty,h1,h2⟩
  · cases h
theorem pLen_ok {argTypes : Array TypeId} {type : TypeId} {x : LV} {x' : Value} (hx : x.re σ = some x') : PV P σ (Builtin.len_ argTypes type #[x']) (pLen P argTypes type x) := by
  unfold pLen
  split
  · simp [LV.re] at hx; subst hx
    unfold pLenV
    split
    · rename_i hs
      obtain ⟨ty,d,h1,h2,h3⟩ := firstShape_spec hs
      cases d <;> simp [shOf] at h3
      exact ⟨_,rfl,fun w => by simp [Builtin.len_,h1,underlying_run h2]⟩
    · exact pv_look _
  · rename_i b off len cap op
    unfold pLenS
    split
    · rename_i e hs
      obtain ⟨ty,d,h1,h2,h3⟩ := firstShape_spec hs
      cases d <;> simp [shOf] at h3
      simp only [LV.re] at hx
      split at hx
      · cases hx; exact ⟨_,rfl,fun w => by simp [Builtin.len_,h1,underlying_run h2]⟩
      · cases hx
    · trivial
  · trivial
theorem pCap_ok {argTypes : Array TypeId} {type : TypeId} {x : LV} {x' : Value} (hx : x.re σ = some x') : PV P σ (Builtin.cap_ argTypes type #[x']) (pCap P argTypes type x) := by
  unfold pCap
  split
  · simp [LV.re] at hx; subst hx; exact pv_look _
  · rename_i b off len cap
    unfold pLenS
    split
    · rename_i e hs
      obtain ⟨ty,d,h1,h2,h3⟩ := firstShape_spec hs
      cases d <;> simp [shOf] at h3
      simp only [LV.re] at hx
      split at hx
      · cases hx; exact ⟨_,rfl,fun w => by simp [Builtin.cap_,h1,underlying_run h2]⟩
      · cases hx
    · trivial
  · trivial
theorem pCall_ok {t : Tr LV} {ρ : Operand → Value} (hρ : ∀ x,(ev t x).re σ = some (ρ x)) {dst : Option Tmp} {c : Call} {type : TypeId} {pos : String} {af : Array Edge} {g : Option (Nat × Bool)} :
    PN P σ (execOp ρ ⟨dst,.call c,type,pos,af,g⟩) (pCall P t type c) := by
  unfold pCall
  split
  · rename_i b hc
    have ha := argsL_re hρ c.args
    have he : execOp ρ ⟨dst,.call c,type,pos,af,g⟩ = builtin b c.argTypes type (c.args.map fun | .const _ => true | _ => false) (c.args.map ρ) := by
      simp only [execOp,resolve,hc]; rfl
    rw [he]
    unfold pBuiltin
    split
    · split
      · rename_i x hx
        rw [hx] at ha
        obtain ⟨x',l,h1,h2,h3⟩ := reL_cons.1 ha
        simp [LV.reL] at h2; subst h2
        have : c.args.map ρ = #[x'] := by rw [← Array.toArray_toList (xs := c.args.map ρ),h3]
        rw [this]; exact (pLen_ok h1).next
      · trivial
    · split
      · rename_i x hx
        rw [hx] at ha
        obtain ⟨x',l,h1,h2,h3⟩ := reL_cons.1 ha
        simp [LV.reL] at h2; subst h2
        have : c.args.map ρ = #[x'] := by rw [← Array.toArray_toList (xs := c.args.map ρ),h3]
        rw [this]; exact (pCap_ok h1).next
      · trivial
    · unfold pMin
      split
      · rename_i vs hv
        rw [primsL_eq hv,reL_prims] at ha
        simp only [Option.some.injEq] at ha
        have : c.args.map ρ = vs.toArray := by rw [ha]
        rw [this]; exact (pv_look _).next
      · trivial
    · unfold pMax
      split
      · rename_i vs hv
        rw [primsL_eq hv,reL_prims] at ha
        simp only [Option.some.injEq] at ha
        have : c.args.map ρ = vs.toArray := by rw [ha]
        rw [this]; exact (pv_look _).next
      · trivial
    · trivial
  · trivial
theorem pPick_ok {t : Tr LV} {ρ : Operand → Value} (hρ : ∀ x,(ev t x).re σ = some (ρ x)) {dst : Option Tmp} {c a b : Operand} {type : TypeId} {pos : String} {af : Array Edge} {g : Option (Nat × Bool)} :
    PN P σ (execOp ρ ⟨dst,.pick c a b,type,pos,af,g⟩) (pPick t c a b) := by
  unfold pPick
  split
  · rename_i h; have := asBoolL_spec h (hρ c); exact ⟨_,hρ a,fun w => by simp [execOp,this,asBool]⟩
  · rename_i h; have := asBoolL_spec h (hρ c); exact ⟨_,hρ b,fun w => by simp [execOp,this,asBool]⟩
  · trivial
theorem lpure_ok {t : Tr LV} {ρ : Operand → Value} (hρ : ∀ x,(ev t x).re σ = some (ρ x)) (o : Oper) : PN P σ (execOp ρ o) (lpure P t o.op o.type) := by
  obtain ⟨dst,op,type,pos,af,g⟩ := o
  unfold lpure
  cases op with
  | move x => exact ⟨_,hρ x,fun w => rfl⟩
  | assign x => exact ⟨_,hρ x,fun w => rfl⟩
  | pick c a b => exact pPick_ok hρ
  | build ty parts => exact (pBuild_ok hρ).next
  | nilCheck x => exact pNil_ok (hρ x) dst x type pos af g rfl
  | binOp op xt x y yt => exact (pBin_ok (hρ x) (hρ y)).next
  | unOp op xt x => exact (pUn_ok (hρ x)).next
  | convert src dst x => exact (pConv_ok (hρ x)).next
  | makeInterface xt x => exact (pMakeI_ok (hρ x)).next
  | makeFunc fn first captured => exact (pMakeF_ok hρ).next
  | slice ty x lo hi mx => exact (pSlice_ok (hρ x) (optR_map hρ lo) (optR_map hρ hi) (optR_map hρ mx)).next
  | fieldAddr s x f => exact (pFieldAddr_ok (hρ x)).next
  | field s x f => exact (pField_ok (hρ x)).next
  | indexAddr ty x ix => exact (pIndexAddr_ok (hρ x) (hρ ix)).next
  | index ty x ix => exact (pIndex_ok (hρ x) (hρ ix)).next
  | typeAssert x xt av ok => exact (pAssert_ok (hρ x)).next
  | extract x ix => exact (pExtract_ok (hρ x)).next
  | call c => exact pCall_ok hρ
  | _ => trivial
end
end Go.Ev
namespace Go.Ev
open Go
section
variable {P : Program} {σ : Sg} {h : H} {w : World} {α : Type}
theorem new_elim {o : LObj} {k : Nat → H → α} {e : α} {Φ : α → Prop} (h0 : Φ e) (h1 : Nat.blt h.next 1000000 = true → Φ (k h.next ⟨Tr.put 20 h.m h.next (some o),h.next + 1⟩)) : Φ (h.new o k e) := by
  unfold H.new
  cases hb : Nat.blt h.next 1000000 with
  | false => simpa using h0
  | true => simp only [cond_true,Tr.putC_eq,fN_eq]; exact h1 hb
theorem set_elim {b : Nat} {o : Option LObj} {k : H → α} {e : α} {Φ : α → Prop} (h0 : Φ e) (h1 : Nat.blt b 1000000 = true → Φ (k ⟨Tr.put 20 h.m b o,h.next⟩)) : Φ (h.set b o k e) := by
  unfold H.set
  cases hb : Nat.blt b 1000000 with
  | false => simpa using h0
  | true => simp only [cond_true,Tr.putC_eq,fN_eq]; exact h1 hb
theorem kill_elim {k : H → α} {e : α} {Φ : α → Prop} (h0 : Φ e) : ∀ (l : List Nat) (h : H),(∀ h' : H,h'.next = h.next → (∀ b,h'.m.get b = if b ∈ l then none else h.m.get b) → Φ (k h')) → Φ (H.kill l h k e) := by
  intro l
  induction l with
  | nil => intro h h1; exact h1 h rfl fun b => by simp
  | cons b l ih =>
    intro h h1
    unfold H.kill
    refine set_elim h0 fun hb => ih _ fun h' hn hg => h1 h' hn fun b' => ?_
    rw [hg b',Tr.get_put20 _ _ _ hb]
    by_cases e1 : b' ∈ l
    · simp [e1]
    · by_cases e2 : b' = b
      · simp [e2]
      · simp [e1,e2]
theorem sim_fresh (s : Sim P σ h w) : σ h.next = none := by
  cases hn : σ h.next with
  | none => rfl
  | some p => exact absurd (s.next _ _ hn).1 (Nat.lt_irrefl _)
theorem goes_new (s : Sim P σ h w) (hn : Nat.blt h.next 1000000 = true) {o : LObj} {x : Obj} {cap : Nat} (ho : ObjR P σ cap o x) :
    Goes P σ h w (σ.put h.next (w.heap.size,cap)) ⟨Tr.put 20 h.m h.next (some o),h.next + 1⟩ (w.alloc x) := by
  have hf := sim_fresh s
  have he : Ext σ (σ.put h.next (w.heap.size,cap)) := Sg.put_ext hf
  have hget := Tr.get_put20 h.m h.next (some o) hn
  have old : ∀ b o',h.m.get b = some o' → b ≠ h.next := fun b o' hb e => by
    obtain ⟨p,_,hp,_⟩ := s.obj b o' hb
    rw [e,hf] at hp; cases hp
  refine ⟨⟨?_,?_,?_⟩,he,⟨rfl,rfl,rfl,by simp,fun β hβ _ => Go.RowKit.Below.heap_alloc w x β hβ⟩,?_,Nat.le_succ _,?_⟩
  · intro b o' hb
    dsimp only at hb
    rw [hget] at hb
    split at hb
    · rename_i e; cases hb
      refine ⟨(w.heap.size,cap),x,by rw [e]; exact Sg.put_same,by simp only [World.alloc,Array.getElem?_push_size],ho.ext he⟩
    · obtain ⟨p,y,h1,h2,h3⟩ := s.obj b o' hb
      exact ⟨p,y,he _ _ h1,by rw [Go.RowKit.Below.heap_alloc w x _ (s.next _ _ h1).2]; exact h2,h3.ext he⟩
  · intro b b' o1 o2 p1 p2 hb hb' hp hp' hne heq hold
    dsimp only at hb hb'
    rw [hget] at hb hb'
    split at hb
    · rename_i e1
      split at hb'
      · rename_i e2; exact absurd (e1.trans e2.symm) hne
      · obtain ⟨p,y,h1,h2,h3⟩ := s.obj b' o2 hb'
        have := he _ _ h1
        rw [hp'] at this; cases this
        rw [e1,Sg.put_same] at hp; cases hp
        exact absurd heq (Nat.ne_of_gt (s.next _ _ h1).2)
    · obtain ⟨p,y,h1,h2,h3⟩ := s.obj b o1 hb
      have := he _ _ h1
      rw [hp] at this; cases this
      split at hb'
      · rename_i e2
        rw [e2,Sg.put_same] at hp'; cases hp'
        exact absurd heq (Nat.ne_of_lt (s.next _ _ h1).2)
      · obtain ⟨p',y',h1',h2',h3'⟩ := s.obj b' o2 hb'
        have := he _ _ h1'
        rw [hp'] at this; cases this
        exact s.apart b b' o1 o2 p1 p2 hb hb' h1 h1' hne heq hold
  · intro b p hp
    unfold Sg.put at hp
    split at hp
    · rename_i e; cases hp; subst e; exact ⟨Nat.lt_succ_self _,by simp⟩
    · obtain ⟨h1,h2⟩ := s.next b p hp
      exact ⟨Nat.lt_succ_of_lt h1,by simp; omega⟩
  · rintro β ⟨b,o',p,hb,hp,rfl⟩
    dsimp only at hb
    rw [hget] at hb
    split at hb
    · rename_i e; rw [e,Sg.put_same] at hp; cases hp; exact .inr (Nat.le_refl _)
    · obtain ⟨q,y,h1,h2,h3⟩ := s.obj b o' hb
      have := he _ _ h1
      rw [hp] at this; cases this
      exact .inl ⟨b,o',p,hb,h1,rfl⟩
  · intro b hb hn'
    unfold Sg.put
    rw [if_neg (by omega)]; exact hn'
theorem sim_sub (s : Sim P σ h w) {h' : H} (hn : h'.next = h.next) (hg : ∀ b o,h'.m.get b = some o → h.m.get b = some o) : Sim P σ h' w :=
  ⟨fun b o hb => s.obj b o (hg b o hb),fun b b' o o' p p' hb hb' => s.apart b b' o o' p p' (hg b o hb) (hg b' o' hb'),fun b p hp => by rw [hn]; exact s.next b p hp⟩
theorem goes_put (s : Sim P σ h w) {b : Nat} {o : LObj} {p : Nat × Nat} (hb : h.m.get b = some o) (hp : σ b = some p) {o1 : LObj} {x1 : Obj} (ho : ObjR P σ p.2 o1 x1)
    {h' : H} (hn : h'.next = h.next) (hg : ∀ b' o',h'.m.get b' = some o' → (b' = b ∧ o' = o1) ∨ (b' ≠ b ∧ h.m.get b' = some o'))
    (h1 : ∀ b' o' p',h'.m.get b' = some o' → b' ≠ b → σ b' = some p' → p'.1 ≠ p.1)
    {w' : World} (hw : w'.heap = w.heap.setIfInBounds p.1 x1) (hos : w'.os = w.os) (ht : w'.tape = w.tape) (hout : w'.output = w.output) :
    Goes P σ h w σ h' w' := by
  have hlt2 := (s.next _ _ hp).2
  refine ⟨⟨?_,?_,?_⟩,Ext.refl σ,⟨hos,ht,hout,by rw [hw]; simp,fun β hβ hA => ?_⟩,?_,by rw [hn]; exact Nat.le_refl _,fun _ _ h => h⟩
  · intro b2 o2 hb2
    rcases hg b2 o2 hb2 with ⟨rfl,rfl⟩ | ⟨hne,hb3⟩
    · exact ⟨p,x1,hp,by rw [hw]; simp [hlt2],ho⟩
    · obtain ⟨q,y,k1,k2,k3⟩ := s.obj b2 o2 hb3
      have := h1 b2 o2 q hb2 hne k1
      exact ⟨q,y,k1,by rw [hw,Array.getElem?_setIfInBounds_ne (fun e => this e.symm)]; exact k2,k3⟩
  · intro b2 b3 o2 o3 p2 p3 hb2 hb3 hp2 hp3 hne heq hold
    rcases hg b2 o2 hb2 with ⟨rfl,rfl⟩ | ⟨hne2,hb4⟩
    · rw [hp] at hp2; cases hp2
      exact absurd heq.symm (h1 b3 o3 p3 hb3 (fun e => hne e.symm) hp3)
    · rcases hg b3 o3 hb3 with ⟨rfl,rfl⟩ | ⟨hne3,hb5⟩
      · rw [hp] at hp3; cases hp3
        exact absurd heq (h1 b2 o2 p2 hb2 hne2 hp2)
      · exact s.apart b2 b3 o2 o3 p2 p3 hb4 hb5 hp2 hp3 hne heq hold
  · exact fun b2 p2 hp2 => ⟨by rw [hn]; exact (s.next b2 p2 hp2).1,by rw [hw]; simpa using (s.next b2 p2 hp2).2⟩
  · rw [hw,Array.getElem?_setIfInBounds_ne]
    intro e; exact hA ⟨b,o,p,hb,hp,e⟩
  · rintro β ⟨b2,o2,p2,hb2,hp2,rfl⟩
    rcases hg b2 o2 hb2 with ⟨rfl,rfl⟩ | ⟨hne,hb3⟩
    · exact .inl ⟨b2,o,p2,hb,hp2,rfl⟩
    · exact .inl ⟨b2,o2,p2,hb3,hp2,rfl⟩
theorem goes_set (s : Sim P σ h w) {b : Nat} {o : LObj} {p : Nat × Nat} (hb : h.m.get b = some o) (hk : o.kin = []) (ho' : o.old = false) (hp : σ b = some p)
    (hlt : Nat.blt b 1000000 = true) {o1 : LObj} {x1 : Obj} (ho : ObjR P σ p.2 o1 x1)
    {w' : World} (hw : w'.heap = w.heap.setIfInBounds p.1 x1) (hos : w'.os = w.os) (ht : w'.tape = w.tape) (hout : w'.output = w.output) :
    Goes P σ h w σ ⟨Tr.put 20 h.m b (some o1),h.next⟩ w' := by
  have hget := Tr.get_put20 h.m b (some o1) hlt
  refine goes_put (h' := ⟨Tr.put 20 h.m b (some o1),h.next⟩) s hb hp ho rfl (fun b' o' hb' => ?_) (fun b' o' p' hb' hne hp' e => ?_) hw hos ht hout
  · dsimp only at hb'
    rw [hget] at hb'
    split at hb'
    · rename_i e; cases hb'; exact .inl ⟨e,rfl⟩
    · rename_i e; exact .inr ⟨e,hb'⟩
  · dsimp only at hb'
    rw [hget,if_neg hne] at hb'
    have := (s.apart b b' o o' p p' hb hb' hp hp' (fun e => hne e.symm) e.symm ho').1
    rw [hk] at this; cases this
def wr (cur : Array Value) (k : Nat) (vs : List Value) : Array Value := (cur.toList.take k ++ (vs ++ cur.toList.drop (k + vs.length))).toArray
theorem wr_size {cur : Array Value} {k : Nat} {vs : List Value} (h : k + vs.length ≤ cur.size) : (wr cur k vs).size = cur.size := by
  simp [wr]; omega
theorem store_run (β off : Nat) (t : TypeId) (fz : Nat × Nat) : ∀ (vs : List Value) (i : Nat) (cur : Array Value) (w : World),w.heap[β]? = some (.cells cur t fz) → off + i + vs.length ≤ cur.size →
    (∀ j,j < cur.size → ¬ (fz.1 ≤ j ∧ j < fz.2)) → (∀ v ∈ vs,v.oneCell' = true) →
    ∃ w',(storeCells ⟨β,off,none⟩ vs i).run P w = .ok () w' ∧ w'.heap = w.heap.setIfInBounds β (.cells (wr cur (off + i) vs) t fz) ∧ w'.os = w.os ∧ w'.tape = w.tape ∧ w'.output = w.output ∧ w'.drawn = w.drawn := by
  intro vs
  induction vs with
  | nil =>
    intro i cur w hg hl hfz h1
    refine ⟨w,rfl,?_,rfl,rfl,rfl,rfl⟩
    have : wr cur (off + i) [] = cur := by simp [wr]
    rw [this]
    apply Array.ext_getElem?
    intro j
    rw [Array.getElem?_setIfInBounds]
    split
    · rename_i e; subst e
      obtain ⟨hlt,_⟩ := Array.getElem?_eq_some_iff.1 hg
      simp [hlt]
      rw [Array.getElem?_eq_getElem hlt] at hg
      simpa using hg
    · rfl
  | cons v vs ih =>
    intro i cur w hg hl hfz h1
    simp only [List.length_cons] at hl
    have hlt : off + i < cur.size := by omega
    have hcell : w.cell? ⟨β,off + i,none⟩ = some cur[off + i] := by simp [World.cell?,hg,hlt]
    have hfro : w.frozen? ⟨β,off + i,none⟩ = false := by
      have := hfz (off + i) hlt
      simp only [World.frozen?,hg]
      simpa [Bool.and_eq_false_iff] using this
    have hv := h1 v (by simp)
    have hblt : β < w.heap.size := (Array.getElem?_eq_some_iff.1 hg).1
    have hset : (w.setCell ⟨β,off + i,none⟩ v).heap = w.heap.setIfInBounds β (.cells (cur.setIfInBounds (off + i) v) t fz) := by
      apply Array.ext_getElem?
      intro j
      simp only [World.setCell,Array.getElem?_modify,Array.getElem?_setIfInBounds]
      by_cases e : β = j
      · subst e
        rw [if_pos rfl,hg,if_pos rfl,if_pos hblt]; rfl
      · simp [e]
    have hg2 : (w.setCell ⟨β,off + i,none⟩ v).heap[β]? = some (.cells (cur.setIfInBounds (off + i) v) t fz) := by rw [hset]; simp [hblt]
    obtain ⟨w',r1,r2,r3⟩ := ih (i + 1) (cur.setIfInBounds (off + i) v) (w.setCell ⟨β,off + i,none⟩ v) hg2 (by simp; omega) (by simpa using hfz) (fun u hu => h1 u (by simp [hu]))
    refine ⟨w',?_,?_,r3⟩
    · simp only [storeCells,Sem.run_bind,addr_add,run_store P w _ v .plain hv,hcell,hfro,Bool.false_eq_true,if_false,Result.andThen_ok,r1]
    · rw [r2,hset]
      have e1 : wr (cur.setIfInBounds (off + i) v) (off + (i + 1)) vs = wr cur (off + i) (v :: vs) := by
        simp only [wr,Array.toList_setIfInBounds,List.length_cons]
        have hlt2 : off + i < cur.toList.length := by simpa using hlt
        rw [← Nat.add_assoc off i 1,List.drop_set_of_lt (by omega),List.take_add_one]
        have e1 : (cur.toList.set (off + i) v)[off + i]? = some v := by rw [List.getElem?_set_self hlt2]
        have e2 : (cur.toList.set (off + i) v).take (off + i) = cur.toList.take (off + i) := by rw [List.take_set_of_le (Nat.le_refl _)]
        rw [e1,e2]
        simp [Nat.add_assoc,Nat.add_comm 1]
      rw [e1]
      apply Array.ext_getElem?
      intro j
      simp only [Array.getElem?_setIfInBounds,Array.size_setIfInBounds]
      by_cases e : β = j
      · simp [e]
      · simp [e]
theorem cellOK_one {v : LV} {v' : Value} (h : cellOK v = true) (hv : v.re σ = some v') : v'.oneCell' = true := by
  cases v with
  | prim u => simp [LV.re] at hv; subst hv; cases u <;> first | rfl | simp [cellOK] at h
  | agg => simp [cellOK] at h
  | tuple => simp [cellOK] at h
  | ptr => simp only [LV.re] at hv; split at hv <;> cases hv; rfl
  | slice => simp only [LV.re] at hv; split at hv <;> cases hv; rfl
  | map => simp only [LV.re] at hv; split at hv <;> cases hv; rfl
  | func => simp only [LV.re] at hv; split at hv <;> cases hv; rfl
  | yield => simp only [LV.re] at hv; split at hv <;> cases hv; rfl
  | iface => simp only [LV.re] at hv; split at hv <;> cases hv; rfl
theorem cellsOK_one {vs : List LV} : ∀ {vs' : List Value},vs.all cellOK = true → LV.reL σ vs = some vs' → ∀ v ∈ vs',v.oneCell' = true := by
  induction vs with
  | nil => intro vs' _ h; simp [LV.reL] at h; subst h; simp
  | cons v vs ih =>
    intro vs' h1 h2 u hu
    obtain ⟨a,b,ha,hb,rfl⟩ := reL_cons.1 h2
    simp only [List.all_cons,Bool.and_eq_true] at h1
    rcases List.mem_cons.1 hu with rfl | hu
    · exact cellOK_one h1.1 ha
    · exact ih h1.2 hb u hu
theorem take_wr (l : List Value) (off n : Nat) (vs : List Value) (h : off + vs.length ≤ n) (hn : n ≤ l.length) :
    (l.take off ++ (vs ++ l.drop (off + vs.length))).take n = (l.take n).take off ++ (vs ++ (l.take n).drop (off + vs.length)) := by
  have e1 : min off l.length = off := by omega
  have e2 : min off n = off := by omega
  simp only [List.take_append,List.length_take,List.take_take,List.drop_take,e1,e2]
  rw [show min n off = off by omega,List.take_of_length_le (l := vs) (by omega)]
  congr 3
  omega
theorem write_elim (s : Sim P σ h w) {b off : Nat} {vs : List LV} {vs' : List Value} {p : Nat × Nat} (hvs : LV.reL σ vs = some vs') (hp : σ b = some p) {k : H → α} {e : α} {Φ : α → Prop} (h0 : Φ e)
    (h1 : ∀ h' w',Goes P σ h w σ h' w' → (storeCells ⟨p.1,off,none⟩ vs').run P w = .ok () w' → Φ (k h')) : Φ (h.write b off vs k e) := by
  unfold H.write
  split
  · rename_i c elem kin hb
    split
    · rename_i c2 hw
      cases hok : vs.all cellOK with
      | false => simpa using h0
      | true =>
        simp only [cond_true]
        refine kill_elim h0 _ _ fun h2 hn2 hg2 => set_elim h0 fun hlt => ?_
        obtain ⟨q,x,k1,k2,k3⟩ := s.obj b _ hb
        rw [hp] at k1; cases k1
        obtain ⟨c',fz,sz,rfl,e2,e3,e4,e5,e6⟩ := k3
        obtain ⟨w1,w2,w3⟩ := writeL_spec hw
        have hvl := reL_length hvs
        have hcl : c.length ≤ c'.size := by omega
        obtain ⟨w',r1,r2,r3,r4,r5,r6⟩ := store_run (P := P) p.1 off elem fz vs' 0 c' w k2 (by omega) e6 (cellsOK_one hok hvs)
        have s2 : Sim P σ h2 w := sim_sub s hn2 fun b' o' hb' => by rw [hg2] at hb'; split at hb' <;> first | cases hb' | exact hb'
        have hcm : (c'.toList.take c.length).length = c.length := by simp; omega
        have hnew : LV.reL σ c2 = some ((wr c' off vs').toList.take c2.length) := by
          rw [w3]
          have := take_wr c'.toList off c.length vs' (by omega) (by simpa using hcl)
          simp only [wr]
          rw [this,w2,hvl]
          exact reL_append (reL_take off e5) (reL_append hvs (reL_drop _ e5))
        refine h1 _ w' (goes_put s hb hp (o1 := .cells c2 elem [] false) (x1 := .cells (wr c' (off + 0) vs') elem fz) ?_ (by simpa using hn2) (fun b' o' hb' => ?_) (fun b' o' p' hb' hne hp' e => ?_) r2 r3 r4 r5) r1
        · refine ⟨_,fz,sz,rfl,e2,by rw [w3]; exact e3,by rw [wr_size (by omega)]; exact e4,?_,by rw [wr_size (by omega)]; exact e6⟩
          simpa using hnew
        · dsimp only at hb'
          rw [Tr.get_put20 _ _ _ hlt] at hb'
          split at hb'
          · rename_i e; cases hb'; exact .inl ⟨e,rfl⟩
          · rename_i e
            rw [hg2] at hb'
            split at hb'
            · cases hb'
            · exact .inr ⟨e,hb'⟩
        · dsimp only at hb'
          rw [Tr.get_put20 _ _ _ hlt,if_neg hne,hg2] at hb'
          split at hb'
          · cases hb'
          · rename_i hnm
            exact hnm (s.apart b b' _ o' p p' hb hb' hp hp' (fun e => hne e.symm) e.symm rfl).1
    · exact h0
  · exact h0
end
end Go.Ev
namespace Go.Ev
open Go
def DefR (σ : Sg) : LDef → Deferred → Prop
  | .collected b,d => ∃ p,σ b = some p ∧ d = { target := .collected p.1,args := #[] }
  | .fn f args,d => ∃ captured args',d = { target := .fn (.func f) captured,args := args' } ∧ LV.reL σ args = some (args'.toList ++ captured.toList)
def OutOK (P : Program) (σ : Sg) (h : H) (w : World) (r : Result Next) : LOut → Prop
  | .val v h' => ∃ σ' w' v',Goes P σ h w σ' h' w' ∧ v.re σ' = some v' ∧ (r = .ok (.value v') w' ∨ (r = .ok .skip w' ∧ v' = undef))
  | .enter f args => ∃ args',LV.reL σ args = some args'.toList ∧ r = .ok (.enter f args') w
  | .round l args => ∃ p args',σ l = some p ∧ LV.reL σ args = some args'.toList ∧ r = (Instr.yield p.1 args').run P w
  | .defer d => ∃ d',DefR σ d d' ∧ r = .ok (.defer d') w
  | .panic v => ∃ v',v.re σ = some v' ∧ r = .halt (.panic v') w
  | .recover => r = .ok .recover w
  | .no => True
section
variable {P : Program} {σ : Sg} {h : H} {w : World}
theorem read_spec (s : Sim P σ h w) {b off n : Nat} {r : List LV} {p : Nat × Nat} (hr : h.read b off n = some r) (hp : σ b = some p) :
    ∃ c' elem fz r',w.heap[p.1]? = some (.cells c' elem fz) ∧ LV.reL σ r = some r' ∧ r' = (c'.toList.drop off).take n ∧ off + n ≤ c'.size ∧ r'.length = n := by
  unfold H.read at hr
  split at hr
  · rename_i c hc
    unfold H.cells at hc
    split at hc
    · rename_i c0 elem kin old hb
      cases hc
      obtain ⟨q,x,k1,k2,k3⟩ := s.obj b _ hb
      rw [hp] at k1; cases k1
      obtain ⟨c',fz,sz,rfl,e2,e3,e4,e5,e6⟩ := k3
      obtain ⟨r1,r2,r3⟩ := readL_spec hr
      have hlen : c.length ≤ c'.size := by omega
      refine ⟨c',elem,fz,_,k2,by rw [r1]; exact reL_take n (reL_drop off e5),?_,by omega,?_⟩
      · rw [List.drop_take,List.take_take]
        congr 1
        omega
      · simp; omega
    · cases hc
  · cases hr
theorem cells_run {β off n : Nat} {c' : Array Value} {elem : TypeId} {fz : Nat × Nat} {r' : List Value} (hb : w.heap[β]? = some (.cells c' elem fz)) (hr : r' = (c'.toList.drop off).take n) (hl : r'.length = n) :
    (loadCells ⟨β,off,none⟩ n).run P w = .ok r'.toArray w := by
  rw [← hl]
  refine run_loadCells_list w _ r' fun j v hj => ?_
  rw [addr_add]
  simp only [World.cell?,hb]
  rw [hr] at hj
  simp [List.getElem?_take] at hj
  simpa using hj.2
theorem load_run (s : Sim P σ h w) {t : TypeId} {b off : Nat} {v : LV} {p : Nat × Nat} (hv : loadL P h t b off = some v) (hp : σ b = some p) :
    ∃ v',v.re σ = some v' ∧ (loadVar t ⟨p.1,off,none⟩).run P w = .ok v' w := by
  unfold loadL at hv
  split at hv
  · rename_i ha
    unfold loadAgg at hv
    split at hv
    · rename_i n hn
      obtain ⟨l,hl,rfl⟩ := aggL_spec hv
      obtain ⟨c',elem,fz,r',k1,k2,k3,k4,k5⟩ := read_spec s hl hp
      exact ⟨.agg r'.toArray,by simp [LV.re,k2],by simp only [loadVar,Sem.run_bind,aggB_run ha,Result.andThen_ok,if_true,sizeOf_run hn,cells_run k1 k3 k5,Sem.run_pure]⟩
    · cases hv
  · rename_i ha
    unfold oneL at hv
    split at hv
    · rename_i u hl
      cases hv
      obtain ⟨c',elem,fz,r',k1,k2,k3,k4,k5⟩ := read_spec s hl hp
      obtain ⟨a,l,e1,e2,rfl⟩ := reL_cons.1 k2
      refine ⟨a,e1,?_⟩
      have hc : c'[off]? = some a := by
        have : ((c'.toList.drop off).take 1)[0]? = some a := by rw [← k3]; rfl
        simpa [List.getElem?_take] using this
      simp [loadVar,aggB_run ha,World.cell?,k1,hc]
    · cases hv
  · cases hv
theorem lload_ok (s : Sim P σ h w) {t : TypeId} {a : LV} {a' : Value} (ha : a.re σ = some a') :
    OutOK P σ h w ((do pure (.value (← Instr.loadAt t a')) : Sem Next).run P w) (lload P h t a) := by
  unfold lload
  split
  · rename_i b off
    simp only [LV.re] at ha
    split at ha
    · rename_i p hp
      cases ha
      cases hv : loadL P h t b off with
      | none => trivial
      | some v =>
        obtain ⟨v',h1,h2⟩ := load_run s hv hp
        exact ⟨σ,w,v',Goes.refl s,h1,.inl (by simp [Instr.loadAt,Instr.sureAddr,h2])⟩
    · cases ha
  · trivial
theorem lstore_ok (s : Sim P σ h w) {t : TypeId} {a v : LV} {a' v' : Value} (ha : a.re σ = some a') (hv : v.re σ = some v') :
    OutOK P σ h w ((do Instr.storeAt t a' v'; pure .skip : Sem Next).run P w) (lstore P h t a v) := by
  unfold lstore
  split
  · rename_i b off
    simp only [LV.re] at ha
    split at ha
    · rename_i p hp
      cases ha
      split
      · rename_i n hn
        unfold storeOn
        simp only [beq_dec,cond_eq_ite,decide_eq_true_eq]
        split
        · rename_i hlen
          have hc := cellsL_spec hv
          have hl := reL_length hc
          refine write_elim (Φ := OutOK P σ h w _) s hc hp trivial fun h' w' hg hrun => ?_
          refine ⟨σ,w',undef,hg,rfl,.inr ⟨?_,rfl⟩⟩
          have hsz : v'.cells.size = n := by simp at hl; omega
          simp [Instr.storeAt,Instr.sureAddr,storeVar,sizeOf_run hn,hsz,hrun]
        · trivial
      · trivial
    · cases ha
  · trivial
end
end Go.Ev
namespace Go.Ev
open Go
section
variable {P : Program} {σ : Sg} {h : H} {w : World}
theorem wrap_small {n : Nat} (h : n ≤ 4611686018427387904) : IntKind.i64.wrap (n : Int) = n := by
  have h1 : (n : Int) % (2 ^ 64 : Int) = n := Int.emod_eq_of_lt (by omega) (by omega)
  simp only [IntKind.wrap,IntKind.bits,h1,IntKind.signed,Bool.true_and]
  rw [if_neg]
  simp only [decide_eq_true_eq]
  omega
theorem grow_le (need : Nat) : ∀ (r c : Nat),c ≤ need → Builtin.growBy need r c ≤ need + (need + 768) / 4 := by
  intro r
  induction r with
  | zero => intro c h; simp [Builtin.growBy]; omega
  | succ r ih =>
    intro c h
    simp only [Builtin.growBy]
    split
    · omega
    · rename_i hc
      by_cases h2 : c + (c + 768) / 4 ≤ need
      · exact ih _ h2
      · have hle : c + (c + 768) / 4 ≤ need + (need + 768) / 4 := by omega
        cases r with
        | zero => simpa [Builtin.growBy] using hle
        | succ r => simp only [Builtin.growBy]; rw [if_pos (by omega)]; exact hle
theorem nextcap_le {need c : Nat} (h : c ≤ need) : Builtin.nextslicecap need c ≤ 4 * need + 4096 := by
  unfold Builtin.nextslicecap
  split
  · omega
  · split
    · omega
    · have := grow_le need 4 c h; omega
theorem info_of {t n b : Nat} (h1 : sizeL P t = some n) (h2 : bytesOfL P t = some b) : ∃ i,P.info? t = some i ∧ i.size = n ∧ i.bytes = b := by
  unfold sizeL at h1
  unfold bytesOfL at h2
  split at h1
  · rename_i i hi
    cases h1
    rw [hi] at h2
    simp at h2
    exact ⟨i,hi,rfl,h2⟩
  · cases h1
theorem zeroCells_len (z : Array Value) (n : Nat) : (Builtin.zeroCells z n).size = n * z.size := by simp [Builtin.zeroCells]
theorem flatten_get (z : List Value) (hz : 0 < z.length) : ∀ (n i : Nat),i < n * z.length → (List.replicate n z).flatten[i]? = z[i % z.length]? := by
  intro n
  induction n with
  | zero => intro i h; simp at h
  | succ n ih =>
    intro i hi
    rw [List.replicate_succ,List.flatten_cons,List.getElem?_append]
    split
    · rename_i hlt; rw [Nat.mod_eq_of_lt hlt]
    · rename_i hge
      rw [ih (i - z.length) (by rw [Nat.add_mul,Nat.one_mul] at hi; omega)]
      congr 1
      exact (Nat.mod_eq_sub_mod (by omega)).symm
theorem zeroCells_eq (z : Array Value) (n : Nat) : (Builtin.zeroCells z n).toList = (List.replicate n z.toList).flatten := by
  apply List.ext_getElem?
  intro i
  by_cases hi : i < n * z.size
  · have hz : 0 < z.size := by
      rcases Nat.eq_zero_or_pos z.size with h | h
      · rw [h] at hi; simp at hi
      · exact h
    rw [flatten_get z.toList (by simpa using hz) n i (by simpa using hi)]
    have hm : i % z.size < z.size := Nat.mod_lt _ hz
    simp [Builtin.zeroCells,hi,hm]
  · rw [List.getElem?_eq_none (by simp [Builtin.zeroCells]; omega),List.getElem?_eq_none (by simp; omega)]
def NewOK (P : Program) (argTypes : Array TypeId) (size bytes : Nat) (z : Value) (w : World) (x : Value) (n : Nat) (new : List Value) : Prop :=
  new.length = n * size ∧ ∃ xt d,argTypes[1]? = some xt ∧ P.underlying xt = some d ∧
    ((∃ k k',d = .int k ∧ x = .int k' n ∧ n ≤ 100000 ∧ n * bytes ≤ 1000000000000 ∧ new = (Builtin.zeroCells z.cells n).toList ∧ z.cells.size = size) ∨
     ((∀ k,d ≠ .int k) ∧ (∀ w,(Builtin.lenOf x).run P w = .ok n w) ∧ (∀ w',w'.heap = w.heap → (Builtin.firstCells size n x).run P w' = .ok new.toArray w')))
theorem append_in {argTypes : Array TypeId} {type st elem : TypeId} {i : TypeInfo} {z : Value} {base : Option Addr} {sLen sCap n : Nat} {x : Value} {new : List Value}
    (h0 : argTypes[0]? = some st) (hu : P.underlying st = some (.slice elem)) (hi : P.info? elem = some i) (hz : zeroV P elem = some z)
    (hn : NewOK P argTypes i.size i.bytes z w x n new) (hc : sLen + n ≤ sCap) :
    (Builtin.append_ argTypes type #[.slice base sLen sCap,x]).run P w =
      ((match base with | some a => storeCells (a.add (sLen * i.size)) new | none => pure ()).run P w).andThen fun _ w' => .ok (.slice base (sLen + n) sCap) w' := by
  obtain ⟨hl,xt,d,h1,hd,⟨k,k',rfl,rfl,n1,n2,rfl,hzs⟩ | ⟨hne,hlen,hfirst⟩⟩ := hn
  · have hw : IntKind.i64.wrap (n : Int) = n := wrap_small (by omega)
    have hneg : ¬ ((n : Int) < 0) := by omega
    have hbig : ¬ ((n : Int) * (i.bytes : Int) > 281474976710656) := by omega
    by_cases h00 : n * i.size = 0
    · have hnil : (Builtin.zeroCells z.cells n).toList = [] := List.eq_nil_of_length_eq_zero (by rw [hl]; exact h00)
      rw [hnil]
      have h000 : (n * i.size = 0) = True := eq_true h00
      cases base <;> simp [Builtin.append_,h0,h1,hu,hd,underlying,sizeOf,typeInfo,hi,asInt,asIntOf,hw,hneg,hbig,hc,h000,storeCells]
    · cases base <;> simp [Builtin.append_,h0,h1,hu,hd,underlying,sizeOf,typeInfo,hi,asInt,asIntOf,hw,hneg,hbig,hc,h00,zeroV_run hz]
  · have hm : (match d with | .int _ => true | _ => false) = false := by cases d <;> first | rfl | exact absurd rfl (hne _)
    have hf := hfirst w rfl
    cases base <;> simp [Builtin.append_,h0,h1,hu,hd,hm,underlying,sizeOf,typeInfo,hi,hlen,hc,hf]
theorem append_grow {argTypes : Array TypeId} {type st elem : TypeId} {i : TypeInfo} {z : Value} {base : Option Addr} {sLen sCap n : Nat} {x : Value} {new old : List Value}
    (h0 : argTypes[0]? = some st) (hu : P.underlying st = some (.slice elem)) (hi : P.info? elem = some i) (hz : zeroV P elem = some z)
    (hn : NewOK P argTypes i.size i.bytes z w x n new) (hc : ¬ sLen + n ≤ sCap) (hsm : sLen + n ≤ 1000000) (hb : (4 * (sLen + n) + 4096) * i.bytes ≤ 1000000000000)
    (hold : (Builtin.firstCells i.size sLen (.slice base sLen sCap)).run P w.drew = .ok old.toArray w.drew) :
    ∃ cap,sLen + n ≤ cap ∧ (Builtin.append_ argTypes type #[.slice base sLen sCap,x]).run P w =
      .ok (.slice (some ⟨w.heap.size,0,none⟩) (sLen + n) cap) (w.drew.alloc (.cells (old ++ new ++ (Builtin.zeroCells z.cells (cap - (sLen + n))).toList).toArray elem)) := by
  refine ⟨(Question.appendCap (sLen + n) sCap elem).cut (w.tape w.drawn (.appendCap (sLen + n) sCap elem)),by simp [Question.cut],?_⟩
  generalize hcap : (Question.appendCap (sLen + n) sCap elem).cut (w.tape w.drawn (.appendCap (sLen + n) sCap elem)) = cap
  have hnext : ¬ (Builtin.nextslicecap (sLen + n) sCap * i.bytes > 281474976710656) := by
    have h1 := nextcap_le (need := sLen + n) (c := sCap) (by omega)
    have := Nat.mul_le_mul_right i.bytes h1
    omega
  have hmax : ¬ ((sLen : Int) + (n : Int) > 9223372036854775807) := by omega
  have hforced : (Question.appendCap (sLen + n) sCap elem).forced = false := rfl
  obtain ⟨hl,xt,d,h1,hd,⟨k,k',rfl,rfl,n1,n2,rfl,hzs⟩ | ⟨hne,hlen,hfirst⟩⟩ := hn
  · have hw : IntKind.i64.wrap (n : Int) = n := wrap_small (by omega)
    have hneg : ¬ ((n : Int) < 0) := by omega
    have hbig : ¬ ((n : Int) * (i.bytes : Int) > 281474976710656) := by omega
    by_cases h00 : n * i.size = 0
    · have hnil : (Builtin.zeroCells z.cells n).toList = [] := List.eq_nil_of_length_eq_zero (by rw [hl]; exact h00)
      rw [hnil]
      have h000 : (n * i.size = 0) = True := eq_true h00
      simp [Builtin.append_,h0,h1,hu,hd,underlying,sizeOf,typeInfo,hi,asInt,asIntOf,hw,hneg,hbig,hc,h000,hmax,hnext,IntKind.max,IntKind.signed,IntKind.bits,hforced,hcap,hold,zeroV_run hz,newRow]; (first | rfl | (show World.alloc _ _ = World.alloc _ _; congr 2; apply Array.ext'; simp))
    · simp [Builtin.append_,h0,h1,hu,hd,underlying,sizeOf,typeInfo,hi,asInt,asIntOf,hw,hneg,hbig,hc,h00,hmax,hnext,IntKind.max,IntKind.signed,IntKind.bits,hforced,hcap,hold,zeroV_run hz,newRow]; (first | rfl | (show World.alloc _ _ = World.alloc _ _; congr 2; apply Array.ext'; simp))
  · have hm : (match d with | .int _ => true | _ => false) = false := by cases d <;> first | rfl | exact absurd rfl (hne _)
    have hf := hfirst w.drew rfl
    simp [Builtin.append_,h0,h1,hu,hd,hm,underlying,sizeOf,typeInfo,hi,hlen,hc,hmax,hnext,IntKind.max,IntKind.signed,IntKind.bits,hforced,hcap,hold,hf,zeroV_run hz,newRow]; (first | rfl | (show World.alloc _ _ = World.alloc _ _; congr 2; apply Array.ext'; simp))
end
end Go.Ev
namespace Go.Ev
open Go
section
variable {P : Program} {σ : Sg} {h : H} {w : World}
def OutV (P : Program) (σ : Sg) (h : H) (w : World) (r : Result Value) : LOut → Prop
  | .val v h' => ∃ σ' w' v',Goes P σ h w σ' h' w' ∧ v.re σ' = some v' ∧ r = .ok v' w'
  | .no => True
  | _ => False
theorem OutV.next {s : Sem Value} {o : LOut} (k : OutV P σ h w (s.run P w) o) : OutOK P σ h w ((do pure (.value (← s)) : Sem Next).run P w) o := by
  cases o with
  | val v h' => obtain ⟨σ',w',v',h1,h2,h3⟩ := k; exact ⟨σ',w',v',h1,h2,.inl (by simp [h3])⟩
  | no => trivial
  | _ => exact k.elim
theorem re_prims_flatten (l : List Value) (n : Nat) : LV.reL σ (List.replicate n (l.map .prim)).flatten = some (List.replicate n l).flatten := by
  induction n with
  | zero => rfl
  | succ n ih => rw [List.replicate_succ,List.flatten_cons,List.replicate_succ,List.flatten_cons]; exact reL_append (reL_prims l) ih
theorem new_spec (s : Sim P σ h w) {argTypes : Array TypeId} {elem size bytes : Nat} {z : List LV} {z0 : Value} {zeros : Bool} {x : LV} {x' : Value} {new : List LV} {n : Nat}
    (hz : zeroL P elem = some z) (hz0 : zeroV P elem = some z0) (he : z = z0.cells.toList.map .prim) (hzl : z.length = size) (ha : apZ P argTypes = some zeros) (hx : x.re σ = some x')
    (hr : (bif zeros then apZeros P elem bytes x else apCells h size x) = some (new,n)) : ∃ new',LV.reL σ new = some new' ∧ NewOK P argTypes size bytes z0 w x' n new' := by
  unfold apZ at ha
  split at ha
  · rename_i ty hty
    split at ha
    · rename_i k hk
      cases ha
      simp only [cond_true] at hr
      unfold apZeros at hr
      split at hr
      · rename_i m z1 hm hz1
        rw [hz] at hz1; cases hz1
        simp only [ble_dec,cond_eq_ite,Bool.and_eq_true,decide_eq_true_eq] at hr
        split at hr
        · rename_i hc
          cases hr
          obtain ⟨k',rfl⟩ := asNat_spec hm hx
          subst he
          have hzs : z0.cells.size = size := by simpa using hzl
          refine ⟨_,re_prims_flatten _ _,by simp [hzs],ty,_,hty,shape_int hk,.inl ⟨_,_,rfl,rfl,hc.1,hc.2,(zeroCells_eq _ _).symm,hzs⟩⟩
        · cases hr
      · cases hr
    · rename_i sh hne hsh
      cases ha
      obtain ⟨d,hd,hds⟩ := shape_spec hsh
      have hni : ∀ k,d ≠ .int k := fun k e => hne k (by rw [← hds,e]; rfl)
      simp only [cond_false] at hr
      unfold apCells at hr
      split at hr
      · rename_i b off len cap op
        unfold apRead at hr
        split at hr
        · rename_i r hrd
          cases hr
          simp only [LV.re] at hx
          split at hx
          · rename_i p hp
            cases hx
            obtain ⟨c',el,fz,r',k1,k2,k3,k4,k5⟩ := read_spec s hrd hp
            refine ⟨r',k2,k5,ty,d,hty,hd,.inr ⟨hni,fun w => by simp [Builtin.lenOf],fun w' hw' => ?_⟩⟩
            simp only [Builtin.firstCells]
            exact cells_run (by rw [hw']; exact k1) k3 k5
          · cases hx
        · cases hr
      · cases hr
        simp [LV.re] at hx; subst hx
        exact ⟨[],rfl,by simp,ty,d,hty,hd,.inr ⟨hni,fun w => by simp [Builtin.lenOf],fun w' _ => by simp [Builtin.firstCells]⟩⟩
      · cases hr
    · cases ha
  · cases ha
theorem sim_drew (s : Sim P σ h w) : Sim P σ h w.drew := ⟨s.obj,s.apart,s.next⟩
theorem grown_obj {elem size need cap : Nat} {z0 : Value} {o new : List LV} {o' new' : List Value} (kin : List Nat) (hsz : sizeL P elem = some size) (hzs : z0.cells.size = size)
    (ho : LV.reL σ o = some o') (hn : LV.reL σ new = some new') (hl : o'.length + new'.length = need * size) (hc : need ≤ cap) :
    ObjR P σ cap (.cells (o ++ new) elem kin false) (.cells (o' ++ new' ++ (Builtin.zeroCells z0.cells (cap - need)).toList).toArray elem) := by
  have h1 := reL_length ho
  have h2 := reL_length hn
  have h3 : need * size + (cap - need) * size = cap * size := by rw [← Nat.add_mul]; congr 1; omega
  have h4 := Nat.mul_le_mul_right size hc
  refine ⟨_,(0,0),size,rfl,hsz,?_,?_,?_,fun i _ => by simp⟩
  · simp; omega
  · simp only [List.size_toArray,List.length_append,Array.length_toList,zeroCells_len,hzs]; omega
  · have : (o ++ new).length = (o' ++ new').length := by simp; omega
    rw [this,List.take_left' (by rfl)]
    exact reL_append ho hn
theorem apNew_ok (s : Sim P σ h w) {h1 : H} (g : Goes P σ h w σ h1 w) {r : Result Value} {elem size bytes len n cap : Nat} {z0 : Value} {o new : List LV} {o' new' : List Value} (kin : List Nat)
    (hsz : sizeL P elem = some size) (hzs : z0.cells.size = size) (ho : LV.reL σ o = some o') (hn : LV.reL σ new = some new') (hl1 : o'.length = len * size) (hl2 : new'.length = n * size)
    (hc : len + n ≤ cap) (hr : r = .ok (.slice (some ⟨w.heap.size,0,none⟩) (len + n) cap) (w.drew.alloc (.cells (o' ++ new' ++ (Builtin.zeroCells z0.cells (cap - (len + n))).toList).toArray elem))) :
    OutV P σ h w r (h1.new (.cells (o ++ new) elem kin false) (fun b h => .val (.slice b 0 (len + n) 0 true) h) .no) := by
  refine new_elim (Φ := OutV P σ h w r) trivial fun hlt => ?_
  have s1 : Sim P σ h1 w.drew := sim_drew g.sim
  have g2 := goes_new s1 hlt (grown_obj kin hsz hzs ho hn (by rw [hl1,hl2,← Nat.add_mul]) hc)
  refine ⟨_,_,_,Goes.trans (Goes.drawn g (w.drawn + 1)) g2,?_,hr⟩
  simp [LV.re,Sg.put_same]
theorem len_le {h : H} (s : Sim P σ h w) {b : Nat} {c : List LV} {el : TypeId} {kin : List Nat} {old : Bool} {p : Nat × Nat} (hb : h.m.get b = some (.cells c el kin old)) (hp : σ b = some p) {size : Nat} (hsz : sizeL P el = some size) :
    c.length ≤ p.2 * size := by
  obtain ⟨q,x,k1,k2,k3⟩ := s.obj b _ hb
  rw [hp] at k1; cases k1
  obtain ⟨c',fz,sz,rfl,e2,e3,e4,e5,e6⟩ := k3
  rw [hsz] at e2; cases e2; exact e3
end
end Go.Ev
namespace Go.Ev
open Go
section
variable {P : Program} {σ : Sg} {h : H} {w : World}
theorem obj_wr {cap k : Nat} {c : List LV} {el el' : TypeId} {kin kin' : List Nat} {old old' : Bool} {c' : Array Value} {fz : Nat × Nat} {vs : List Value}
    (ho : ObjR P σ cap (.cells c el kin old) (.cells c' el' fz)) (hk : c.length ≤ k) (hs : k + vs.length ≤ c'.size) : ObjR P σ cap (.cells c el kin' old') (.cells (wr c' k vs) el' fz) := by
  obtain ⟨c2,fz2,sz,e1,e2,e3,e4,e5,e6⟩ := ho
  cases e1
  refine ⟨_,fz,sz,rfl,e2,e3,by rw [wr_size hs]; exact e4,?_,by rw [wr_size hs]; exact e6⟩
  rw [e5]
  congr 1
  simp only [wr]
  rw [List.take_append_of_le_length (by simp; omega),List.take_take]
  congr 1
  omega
theorem goes_alias (s : Sim P σ h w) {b : Nat} {c : List LV} {elem : TypeId} {kin kin2 : List Nat} {p : Nat × Nat} (hb : h.m.get b = some (.cells c elem kin false)) (hp : σ b = some p)
    {size len n : Nat} (hsz : sizeL P elem = some size) {o new : List LV} {new' : List Value} (ho : readL c 0 (len * size) = some o) (hn : LV.reL σ new = some new') (hnl : new'.length = n * size)
    (hc : len + n ≤ p.2) {h1 : H} (hn1 : h1.next = h.next) (hlt : Nat.blt h1.next 1000000 = true)
    (hg : ∀ b' o',h1.m.get b' = some o' → (b' = b ∧ o' = .cells c elem kin true ∧ len * size = c.length ∧ kin2 = b :: kin) ∨ (b' ≠ b ∧ h.m.get b' = some o' ∧ ((len * size = c.length ∧ kin2 = b :: kin) ∨ ¬ b' ∈ kin)))
    (hlen : len * size ≤ c.length) {c' : Array Value} {fz : Nat × Nat} (hw0 : w.heap[p.1]? = some (.cells c' elem fz))
    {w' : World} (hw : w'.heap = w.heap.setIfInBounds p.1 (.cells (wr c' (len * size) new') elem fz)) (hos : w'.os = w.os) (ht : w'.tape = w.tape) (hout : w'.output = w.output) :
    Goes P σ h w (σ.put h1.next p) ⟨Tr.put 20 h1.m h1.next (some (.cells (o ++ new) elem kin2 false)),h1.next + 1⟩ w' := by
  have hf := sim_fresh s
  rw [← hn1] at hf
  have he : Ext σ (σ.put h1.next p) := Sg.put_ext hf
  have hget := Tr.get_put20 h1.m h1.next (some (.cells (o ++ new) elem kin2 false)) hlt
  have hplt := (s.next b p hp).2
  have hblt := (s.next b p hp).1
  obtain ⟨q,x,k1,k2,k3⟩ := s.obj b _ hb
  rw [hp] at k1; cases k1
  rw [hw0] at k2; cases k2
  have k3' := k3
  obtain ⟨c2,fz2,sz,e1,e2,e3,e4,e5,e6⟩ := k3
  cases e1
  rw [hsz] at e2; cases e2
  have hroom : (len + n) * size ≤ p.2 * size := Nat.mul_le_mul_right size hc
  have hfit : len * size + new'.length ≤ c'.size := by rw [hnl,← Nat.add_mul]; omega
  obtain ⟨r1,r2,r3⟩ := readL_spec ho
  have hre : LV.reL σ o = some ((c'.toList.take (len * size))) := by
    rw [r1,List.drop_zero]
    have := reL_take (len * size) e5
    rw [this,List.take_take]
    congr 2
    omega
  have hnl2 := reL_length hn
  have other : ∀ b' o',h1.m.get b' = some o' → b' ≠ b → ∀ p',σ b' = some p' → p'.1 = p.1 →
      b' ∈ kin ∧ o'.old = true ∧ o'.len ≤ c.length ∧ h.m.get b' = some o' ∧ len * size = c.length ∧ kin2 = b :: kin := by
    intro b' o' hb' hne p' hp' heq
    rcases hg b' o' hb' with ⟨e,_⟩ | ⟨_,hb2,hk⟩
    · exact absurd e hne
    · obtain ⟨a1,a2,a3⟩ := s.apart b b' _ o' p p' hb hb2 hp hp' (fun e => hne e.symm) heq.symm rfl
      rcases hk with ⟨hk,hk2⟩ | hk
      · exact ⟨a1,a2,a3,hb2,hk,hk2⟩
      · exact absurd a1 hk
  have known : ∀ b' o',h1.m.get b' = some o' → ∃ o2,h.m.get b' = some o2 := fun b' o' hb' => by
    rcases hg b' o' hb' with ⟨rfl,_⟩ | ⟨_,hb2,_⟩
    · exact ⟨_,hb⟩
    · exact ⟨_,hb2⟩
  have notnext : ∀ b' o',h1.m.get b' = some o' → b' ≠ h1.next := fun b' o' hb' e => by
    obtain ⟨o2,hb2⟩ := known b' o' hb'
    obtain ⟨p2,_,hp2,_⟩ := s.obj b' o2 hb2
    rw [e,hf] at hp2; cases hp2
  have back : ∀ b' p',b' ≠ h1.next → σ.put h1.next p b' = some p' → σ b' = some p' := fun b' p' hne hp' => by
    unfold Sg.put at hp'; rw [if_neg hne] at hp'; exact hp'
  refine ⟨⟨?_,?_,?_⟩,he,⟨hos,ht,hout,by rw [hw]; simp,fun β hβ hA => ?_⟩,?_,by simp; omega,?_⟩
  · intro b2 o2 hb2
    dsimp only at hb2
    rw [hget] at hb2
    split at hb2
    · rename_i e
      cases hb2
      refine ⟨p,.cells (wr c' (len * size) new') elem fz,by rw [e]; exact Sg.put_same,by rw [hw]; simp [hplt],?_⟩
      refine ⟨_,fz,size,rfl,hsz,?_,by rw [wr_size hfit]; exact e4,?_,by rw [wr_size hfit]; exact e6⟩
      · simp; rw [r3,← hnl2,hnl,← Nat.add_mul]; exact hroom
      · have h3 : (o ++ new).length = (c'.toList.take (len * size) ++ new').length := by simp; omega
        rw [h3]
        simp only [wr]
        rw [← List.append_assoc,List.take_left' (by rfl)]
        exact reL_append (LV.reL_ext he hre) (LV.reL_ext he hn)
    · by_cases hne : b2 = b
      · subst hne
        rcases hg b2 o2 hb2 with ⟨_,rfl,hk,_⟩ | ⟨hne,_⟩
        · exact ⟨p,_,he _ _ hp,by rw [hw]; simp [hplt],(obj_wr k3' (by omega) hfit).ext he⟩
        · exact absurd rfl hne
      · obtain ⟨o3,hb3⟩ := known b2 o2 hb2
        have hb4 : h.m.get b2 = some o2 := by
          rcases hg b2 o2 hb2 with ⟨e,_⟩ | ⟨_,hb3,_⟩
          · exact absurd e hne
          · exact hb3
        obtain ⟨q,y,j1,j2,j3⟩ := s.obj b2 o2 hb4
        by_cases hq : q.1 = p.1
        · obtain ⟨a1,a2,a3,_,a5,_⟩ := other b2 o2 hb2 hne q j1 hq
          rw [hq,hw0] at j2; cases j2
          cases o2 with
          | cells c2 el2 kin2' old2 =>
            refine ⟨q,.cells (wr c' (len * size) new') elem fz,he _ _ j1,by rw [hw,hq]; simp [hplt],(obj_wr j3 ?_ hfit).ext he⟩
            simp only [LObj.len] at a3; omega
          | _ => simp [LObj.old] at a2
        · exact ⟨q,y,he _ _ j1,by rw [hw,Array.getElem?_setIfInBounds_ne (fun e => hq e.symm)]; exact j2,j3.ext he⟩
  · intro b2 b3 o2 o3 p2 p3 hb2 hb3 hp2 hp3 hne heq hold
    dsimp only at hb2 hb3
    rw [hget] at hb2 hb3
    split at hb2
    · rename_i e2
      cases hb2
      rw [e2,Sg.put_same] at hp2; cases hp2
      split at hb3
      · rename_i e3; exact absurd (e2.trans e3.symm) hne
      · rename_i e3
        have hp3' := back b3 p3 e3 hp3
        by_cases hbb : b3 = b
        · subst hbb
          rcases hg b3 o3 hb3 with ⟨_,rfl,hk,hk2⟩ | ⟨hne',_⟩
          · refine ⟨by rw [LObj.kin,hk2]; simp,rfl,?_⟩
            simp only [LObj.len,List.length_append]; omega
          · exact absurd rfl hne'
        · obtain ⟨a1,a2,a3,a4,a5,a6⟩ := other b3 o3 hb3 hbb p3 hp3' heq.symm
          refine ⟨by rw [LObj.kin,a6]; simp [a1],a2,?_⟩
          simp only [LObj.len,List.length_append] at a3 ⊢; omega
    · rename_i e2
      have hp2' := back b2 p2 e2 hp2
      by_cases hbb : b2 = b
      · subst hbb
        rcases hg b2 o2 hb2 with ⟨_,rfl,_⟩ | ⟨hne',_⟩
        · simp [LObj.old] at hold
        · exact absurd rfl hne'
      · have hb4 : h.m.get b2 = some o2 := by
          rcases hg b2 o2 hb2 with ⟨e,_⟩ | ⟨_,hb3,_⟩
          · exact absurd e hbb
          · exact hb3
        split at hb3
        · rename_i e3
          rw [e3,Sg.put_same] at hp3; cases hp3
          have := (other b2 o2 hb2 hbb p2 hp2' heq).2.1
          rw [hold] at this; cases this
        · rename_i e3
          have hp3' := back b3 p3 e3 hp3
          by_cases hbb3 : b3 = b
          · subst hbb3
            rw [hp] at hp3'; cases hp3'
            have := (other b2 o2 hb2 hbb p2 hp2' heq).2.1
            rw [hold] at this; cases this
          · have hb5 : h.m.get b3 = some o3 := by
              rcases hg b3 o3 hb3 with ⟨e,_⟩ | ⟨_,hb3,_⟩
              · exact absurd e hbb3
              · exact hb3
            exact s.apart b2 b3 o2 o3 p2 p3 hb4 hb5 hp2' hp3' hne heq hold
  · intro b2 p2 hp2
    unfold Sg.put at hp2
    split at hp2
    · rename_i e; cases hp2; subst e; exact ⟨Nat.lt_succ_self _,by rw [hw]; simpa using hplt⟩
    · obtain ⟨j1,j2⟩ := s.next b2 p2 hp2
      exact ⟨by simp; omega,by rw [hw]; simpa using j2⟩
  · rw [hw,Array.getElem?_setIfInBounds_ne]
    intro e; exact hA ⟨b,_,p,hb,hp,e⟩
  · rintro β ⟨b2,o2,p2,hb2,hp2,rfl⟩
    dsimp only at hb2
    rw [hget] at hb2
    split at hb2
    · rename_i e; rw [e,Sg.put_same] at hp2; cases hp2; exact .inl ⟨b,_,p,hb,hp,rfl⟩
    · rename_i e
      obtain ⟨o3,hb3⟩ := known b2 o2 hb2
      exact .inl ⟨b2,o3,p2,hb3,back b2 p2 e hp2,rfl⟩
  · intro b2 hb2 hn2
    unfold Sg.put
    rw [if_neg (by omega)]; exact hn2
end
end Go.Ev
namespace Go.Ev
open Go
section
variable {P : Program} {σ : Sg} {h : H} {w : World}
theorem apNew_elim {elem bytes need : Nat} {cells : List LV} {kin : List Nat} {Φ : LOut → Prop} (h0 : Φ .no)
    (h1 : need ≤ 1000000 → (4 * need + 4096) * bytes ≤ 1000000000000 → Φ (h.new (.cells cells elem kin false) (fun b h => .val (.slice b 0 need 0 true) h) .no)) : Φ (apNew h elem bytes cells kin need) := by
  unfold apNew
  simp only [ble_dec,cond_eq_ite,Bool.and_eq_true,decide_eq_true_eq,fN_eq]
  split
  · rename_i hc; exact h1 hc.1 hc.2
  · exact h0
theorem goes_old (s : Sim P σ h w) {b : Nat} {c : List LV} {el : TypeId} {kin : List Nat} (hb : h.m.get b = some (.cells c el kin false)) {h1 : H} (hn : h1.next = h.next)
    (hg : ∀ b' o',h1.m.get b' = some o' → (b' = b ∧ o' = .cells c el kin true) ∨ (b' ≠ b ∧ h.m.get b' = some o')) : Goes P σ h w σ h1 w := by
  refine ⟨⟨?_,?_,fun b' p hp => by rw [hn]; exact s.next b' p hp⟩,Ext.refl σ,Keep.refl _ w,?_,by rw [hn]; exact Nat.le_refl _,fun _ _ h => h⟩
  · intro b' o' hb'
    rcases hg b' o' hb' with ⟨rfl,rfl⟩ | ⟨_,hb2⟩
    · obtain ⟨p,x,h1,h2,h3⟩ := s.obj _ _ hb; exact ⟨p,x,h1,h2,h3⟩
    · exact s.obj b' o' hb2
  · intro b2 b3 o2 o3 p2 p3 hb2 hb3 hp2 hp3 hne heq hold
    rcases hg b2 o2 hb2 with ⟨rfl,rfl⟩ | ⟨e2,hb4⟩
    · simp [LObj.old] at hold
    · rcases hg b3 o3 hb3 with ⟨rfl,rfl⟩ | ⟨e3,hb5⟩
      · have := (s.apart _ _ _ _ _ _ hb hb4 hp3 hp2 (fun e => hne e.symm) heq.symm rfl).2.1
        rw [hold] at this; cases this
      · exact s.apart b2 b3 o2 o3 p2 p3 hb4 hb5 hp2 hp3 hne heq hold
  · rintro β ⟨b2,o2,p2,hb2,hp2,rfl⟩
    rcases hg b2 o2 hb2 with ⟨rfl,rfl⟩ | ⟨_,hb4⟩
    · exact .inl ⟨_,_,p2,hb,hp2,rfl⟩
    · exact .inl ⟨b2,o2,p2,hb4,hp2,rfl⟩
theorem firstCells_nil {size : Nat} (w : World) : (Builtin.firstCells size 0 (.slice none 0 0)).run P w = .ok ([] : List Value).toArray w := by simp [Builtin.firstCells]
theorem lappend_ok (s : Sim P σ h w) {argTypes : Array TypeId} {type : TypeId} {x y : LV} {x' y' : Value} (hx : x.re σ = some x') (hy : y.re σ = some y') :
    OutV P σ h w ((Builtin.append_ argTypes type #[x',y']).run P w) (lappend P h argTypes x y) := by
  unfold lappend
  split
  · rename_i elem hs
    obtain ⟨st,d,h0,hu,hds⟩ := firstShape_spec hs
    have hu : P.underlying st = some (.slice elem) := by rw [hu,shOf_slice hds]
    split
    · rename_i size bytes z zeros hsz hby hz hzs
      simp only [beq_dec,cond_eq_ite,decide_eq_true_eq]
      split
      · rename_i hzl
        obtain ⟨z0,hz0,he⟩ := zeroL_spec hz
        obtain ⟨i,hi,his,hib⟩ := info_of hsz hby
        have hzc : z0.cells.size = size := by rw [← hzl,he]; simp
        unfold apWith
        split
        · rename_i new n hr
          obtain ⟨new',hn1,hn2⟩ := new_spec s hz hz0 he hzl hzs hy (by simpa only [cond_eq_ite] using hr)
          have hnl : new'.length = n * size := hn2.1
          rw [← his,← hib] at hn2
          unfold apOn
          split
          · -- nil
            simp [LV.re] at hx; subst hx
            simp only [beq_dec,cond_eq_ite,decide_eq_true_eq]
            split
            · rename_i hn0
              subst hn0
              have := append_in (type := type) (base := none) (sLen := 0) (sCap := 0) h0 hu hi hz0 hn2 (Nat.le_refl _)
              exact ⟨σ,w,_,Goes.refl s,rfl,by rw [this]; simp⟩
            · rename_i hn0
              refine apNew_elim (Φ := OutV P σ h w _) trivial fun b1 b2 => ?_
              obtain ⟨cap,hc,hrun⟩ := append_grow (type := type) (base := none) (sLen := 0) (sCap := 0) (old := []) h0 hu hi hz0 hn2 (by omega) (by omega) (by rw [hib,Nat.zero_add]; exact b2) (by rw [his]; exact firstCells_nil _)
              have := apNew_ok s (Goes.refl s) (len := 0) (n:=n) (o := []) (o' := []) (new := new) (cap := cap) (bytes := bytes) [] hsz hzc rfl hn1 (by simp) hnl hc hrun
              simpa using this
          · -- a slice
            rename_i b off len cap op
            unfold apSlice
            split
            · rename_i c el kin old hb
              simp only [fN_eq]
              simp only [LV.re] at hx
              split at hx
              · rename_i p hp
                cases hx
                generalize hR : (Builtin.append_ argTypes type #[_,y']).run P w = R
                unfold apTo
                split
                · -- a known capacity
                  simp only [ble_dec,cond_eq_ite,decide_eq_true_eq,cond_false]
                  split
                  · rename_i hfit
                    cases old with
                    | true => exact True.intro
                    | false =>
                      simp only [Bool.false_eq_true,if_false]
                      refine write_elim (Φ := OutV P σ h w R) s hn1 hp trivial fun h' w' hg hrun => ?_
                      have := append_in (type := type) (base := some ⟨p.1,off,none⟩) (sLen := len) (sCap := cap) h0 hu hi hz0 hn2 hfit
                      refine ⟨σ,w',.slice (some ⟨p.1,off,none⟩) (len + n) cap,hg,?_,hR.symm.trans (this.trans (by simp only [his,addr_add,hrun,Result.andThen_ok]))⟩
                      simp [LV.re,hp]
                  · rename_i hfit
                    unfold apFresh
                    cases ho : readL c off (len * size) with
                    | none => exact True.intro
                    | some o =>
                      have hrd : h.read b off (len * size) = some o := by simp [H.read,H.cells,hb,ho]
                      obtain ⟨c',elem',fz,o',k1,k2,k3,k4,k5⟩ := read_spec s hrd hp
                      refine apNew_elim (Φ := OutV P σ h w R) trivial fun b1 b2 => ?_
                      obtain ⟨cap2,hc,hrun⟩ := append_grow (type := type) (base := some ⟨p.1,off,none⟩) (sLen := len) (sCap := cap) (old := o') h0 hu hi hz0 hn2 hfit b1 (by rw [hib]; exact b2)
                        (by simp only [Builtin.firstCells,his]; exact cells_run (w := w.drew) k1 k3 k5)
                      exact apNew_ok s (Goes.refl s) (bytes := bytes) [] hsz hzc k2 hn1 k5 hnl hc (hR.symm.trans hrun)
                · -- a capacity that is not known
                  simp only [ble_dec,beq_dec,cond_eq_ite,decide_eq_true_eq,Bool.or_eq_true,Bool.not_eq_true',decide_eq_false_iff_not,cond_true]
                  split
                  · trivial
                  · rename_i hcond
                    simp only [not_or,Bool.not_eq_true,Decidable.not_not] at hcond
                    obtain ⟨hold,hel,hoff,hsize⟩ := hcond
                    subst hold; subst hel
                    have hcl := len_le s hb hp hsz
                    split
                    · rename_i hfit
                      have hfit2 : len + n ≤ p.2 - cap := by
                        have h5 : (cap + (len + n)) * size ≤ p.2 * size := by rw [Nat.add_mul,← hoff]; omega
                        have := Nat.le_of_mul_le_mul_right h5 (by omega)
                        omega
                      refine write_elim (Φ := OutV P σ h w R) s hn1 hp trivial fun h' w' hg hrun => ?_
                      have := append_in (type := type) (base := some ⟨p.1,off,none⟩) (sLen := len) (sCap := p.2 - cap) h0 hu hi hz0 hn2 hfit2
                      refine ⟨σ,w',.slice (some ⟨p.1,off,none⟩) (len + n) (p.2 - cap),hg,?_,hR.symm.trans (this.trans (by simp only [his,addr_add,hrun,Result.andThen_ok]))⟩
                      simp [LV.re,hp]
                    · rename_i hfit
                      unfold apOpen
                      simp only [beq_dec,cond_eq_ite,decide_eq_true_eq,Bool.and_eq_true]
                      split
                      · rename_i hc3
                        obtain ⟨rfl,rfl,hcok⟩ := hc3
                        simp only [Nat.zero_add,Nat.sub_zero] at hfit ⊢
                        cases ho : readL c 0 (len * size) with
                        | none => exact True.intro
                        | some o =>
                          dsimp only
                          have hrd : h.read b 0 (len * size) = some o := by simp [H.read,H.cells,hb,ho]
                          obtain ⟨c',elem',fz,o',k1,k2,k3,k4,k5⟩ := read_spec s hrd hp
                          obtain ⟨q1,q2,q3⟩ := readL_spec ho
                          obtain ⟨q,x,j1,j2,j3⟩ := s.obj b _ hb
                          rw [hp] at j1; cases j1
                          obtain ⟨c2,fz2,sz,e1,e2,e3,e4,e5,e6⟩ := j3
                          subst e1
                          rw [k1] at j2; cases j2
                          rw [hsz] at e2; cases e2
                          have fin : ∀ (h1 : H) (kin2 : List Nat),h1.next = h.next →
                              (∀ b' o',h1.m.get b' = some o' → (b' = b ∧ o' = .cells c el kin true ∧ len * size = c.length ∧ kin2 = b :: kin) ∨ (b' ≠ b ∧ h.m.get b' = some o' ∧ ((len * size = c.length ∧ kin2 = b :: kin) ∨ ¬ b' ∈ kin))) →
                              OutV P σ h w R (apNew h1 el bytes (o ++ new) kin2 (len + n)) := by
                            intro h1 kin2 hnx hg
                            refine apNew_elim (Φ := OutV P σ h w R) trivial fun b1 b2 => ?_
                            by_cases hroom : len + n ≤ p.2
                            · refine new_elim (Φ := OutV P σ h w R) trivial fun hlt => ?_
                              have hfits : 0 + len * size + new'.length ≤ c'.size := by
                                have := Nat.mul_le_mul_right size hroom
                                rw [hnl,Nat.zero_add,← Nat.add_mul]; omega
                              have hone := cellsOK_one hcok hn1
                              obtain ⟨w',r1,r2,r3,r4,r5,r6⟩ := store_run (P := P) p.1 (len * size) el fz new' 0 c' w k1 (by omega) e6 hone
                              have := append_in (type := type) (base := some ⟨p.1,0,none⟩) (sLen := len) (sCap := p.2) h0 hu hi hz0 hn2 hroom
                              refine ⟨_,w',.slice (some ⟨p.1,0,none⟩) (len + n) p.2,goes_alias s hb hp hsz ho hn1 hnl hroom hnx hlt hg (by omega) k1 (by simpa using r2) r3 r4 r5,?_,hR.symm.trans (this.trans (by simp only [his,addr_add,Nat.zero_add,r1,Result.andThen_ok]))⟩
                              simp [LV.re,Sg.put_same]
                            · obtain ⟨cap2,hc,hrun⟩ := append_grow (type := type) (base := some ⟨p.1,0,none⟩) (sLen := len) (sCap := p.2) (old := o') h0 hu hi hz0 hn2 hroom b1 (by rw [hib]; exact b2)
                                (by simp only [Builtin.firstCells,his]; exact cells_run (w := w.drew) k1 k3 k5)
                              have hg1 : Goes P σ h w σ h1 w := goes_old s hb hnx fun b' o' hb' => by
                                rcases hg b' o' hb' with ⟨e1,e2,_⟩ | ⟨e1,e2,_⟩
                                · exact .inl ⟨e1,e2⟩
                                · exact .inr ⟨e1,e2⟩
                              exact apNew_ok s hg1 (bytes := bytes) kin2 hsz hzc k2 hn1 k5 hnl hc (hR.symm.trans hrun)
                          split
                          · rename_i hle
                            refine set_elim (Φ := OutV P σ h w R) trivial fun hlt => ?_
                            refine fin _ _ rfl fun b' o' hb' => ?_
                            dsimp only at hb'
                            rw [Tr.get_put20 _ _ _ hlt] at hb'
                            split at hb'
                            · rename_i e; cases hb'; exact .inl ⟨e,rfl,hle,rfl⟩
                            · rename_i e; exact .inr ⟨e,hb',.inl ⟨hle,rfl⟩⟩
                          · rename_i hle
                            refine kill_elim (Φ := OutV P σ h w R) (by trivial) _ _ fun h2 hn2 hg2 => ?_
                            refine fin _ _ hn2 fun b' o' hb' => ?_
                            rw [hg2] at hb'
                            split at hb'
                            · cases hb'
                            · rename_i hm
                              simp only [List.mem_cons,not_or] at hm
                              exact .inr ⟨hm.1,hb',.inr hm.2⟩
                      · trivial
              · cases hx
            · trivial
          · trivial
        · trivial
      · trivial
    · trivial
  · trivial
end
end Go.Ev
namespace Go.Ev
open Go
section
variable {P : Program} {σ : Sg}
def AllocOK (P : Program) (σ : Sg) (s : Sem Next) (x : LObj) (mk : Nat → LV) : Prop :=
  ∃ (cap : Nat) (obj : Obj) (V : Nat → Value),ObjR P σ cap x obj ∧ (∀ w,s.run P w = .ok (.value (V w.heap.size)) (w.alloc obj)) ∧ (∀ σ' b β,σ' b = some (β,cap) → (mk b).re σ' = some (V β))
theorem cells_obj {elem n : Nat} {c : List LV} {c' : Array Value} (m : Nat) (hsz : sizeL P elem = some n) (hc : LV.reL σ c = some c'.toList) (hl : c'.size = m * n) :
    ObjR P σ m (.cells c elem [] false) (.cells c' elem (0,0)) := by
  have := reL_length hc
  refine ⟨c',(0,0),n,rfl,hsz,by simp at this; omega,by omega,?_,fun i _ => by simp⟩
  rw [List.take_of_length_le (by omega)]; exact hc
theorem aAlloc_ok {elem : TypeId} {x : LObj} {mk : Nat → LV} (h : aAlloc P elem = some (x,mk)) :
    AllocOK P σ (do pure (.value (← Instr.alloc elem true (.tuple #[])))) x mk := by
  unfold aAlloc at h
  split at h
  · rename_i z n hz hn
    simp only [beq_dec,cond_eq_ite,decide_eq_true_eq] at h
    split at h
    · rename_i hl
      cases h
      obtain ⟨z0,hz0,rfl⟩ := zeroL_spec hz
      refine ⟨1,.cells z0.cells elem (0,0),fun β => .pointer (some ⟨β,0,none⟩),cells_obj 1 hn (reL_prims _) (by simp at hl; omega),fun w => ?_,fun σ' b β hb => by simp [LV.re,hb]⟩
      simp [Instr.alloc,zeroV_run hz0,newVar,newRow] <;> rfl
    · cases h
  · cases h
theorem aBox_ok {elem : TypeId} {v : LV} {v' : Value} (hv : v.re σ = some v') {x : LObj} {mk : Nat → LV} (h : aBox P elem v = some (x,mk)) :
    AllocOK P σ (do pure (.value (← Instr.box elem v'))) x mk := by
  unfold aBox at h
  split at h
  · rename_i n hn
    simp only [beq_dec,cond_eq_ite,decide_eq_true_eq] at h
    split at h
    · rename_i hl
      cases h
      have hc := cellsL_spec hv
      have hcl := reL_length hc
      refine ⟨1,.cells v'.cells elem (0,0),fun β => .pointer (some ⟨β,0,none⟩),cells_obj 1 hn hc (by simp at hcl; omega),fun w => ?_,fun σ' b β hb => by simp [LV.re,hb]⟩
      simp [Instr.box,newVar,newRow] <;> rfl
    · cases h
  · cases h
theorem range_fill (z : Array Value) (n : Nat) : ((Array.range (n * z.size)).map (z[· % z.size]!)).toList = (List.replicate n z.toList).flatten := by
  rw [← zeroCells_eq]; rfl
theorem aBuild_ok {t : Tr LV} {ρ : Operand → Value} (hρ : ∀ x,(ev t x).re σ = some (ρ x)) {ty : TypeId} {len : Nat} {parts : Array (Nat × Operand)} {x : LObj} {mk : Nat → LV} (h : aBuild P t ty len parts = some (x,mk)) :
    AllocOK P σ (do pure (.value (← Instr.buildSlice ty len (parts.map fun (i,x) => (i,ρ x))))) x mk := by
  unfold aBuild at h
  split at h
  · rename_i elem hs
    have hu := shape_slice hs
    split at h
    · rename_i size z hsz hz
      simp only [beq_dec,ble_dec,cond_eq_ite,decide_eq_true_eq,Bool.and_eq_true] at h
      split at h
      · rename_i hc
        obtain ⟨hzl,hbig⟩ := hc
        unfold aBuildCells at h
        split at h
        · rename_i r cells hf
          cases h
          obtain ⟨z0,hz0,rfl⟩ := zeroL_spec hz
          have hzs : z0.cells.size = size := by simpa using hzl
          obtain ⟨e1,e2⟩ := evParts_spec hρ parts
          obtain ⟨r',h1,h2⟩ := fillL_spec (σ := σ) hf (re_prims_flatten z0.cells.toList len) e1 e2
          have hfl : (List.replicate len (z0.cells.toList.map LV.prim)).flatten.length = len * size := by simp [hzs]
          have hrl : r'.length = len * size := by
            have := reL_length h1
            rw [this,fillL_len hf,hfl]
          refine ⟨len,.cells r'.toArray elem (0,0),fun β => .slice (some ⟨β,0,none⟩) len len,cells_obj len hsz (by simpa using h1) (by simpa using hrl),fun w => ?_,fun σ' b β hb => by simp [LV.re,hb]⟩
          have hlt : ¬ (len * size > 2 ^ 24) := by omega
          by_cases h0 : len * size = 0
          · have hnil : (List.replicate len z0.cells.toList).flatten = [] := List.eq_nil_of_length_eq_zero (by simp [hzs]; simpa using h0)
            rw [hnil] at h2
            have : ((Array.range (len * size)).map (fun i => (#[] : Array Value)[i % (#[] : Array Value).size]!)) = ([] : List Value).toArray := by rw [h0]; simp
            simp only [Instr.buildSlice,Sem.run_bind,underlying_run hu,sizeOf_run hsz,Result.andThen_ok,if_neg hlt,if_pos h0,Sem.run_pure,Sem.run_ite]
            rw [this,h2]
            simp [newRow] <;> rfl
          · have : ((Array.range (len * size)).map (fun i => z0.cells[i % z0.cells.size]!)) = ((List.replicate len z0.cells.toList).flatten).toArray := by
              apply Array.ext'
              rw [← hzs,range_fill]
            simp only [Instr.buildSlice,Sem.run_bind,underlying_run hu,sizeOf_run hsz,Result.andThen_ok,if_neg hlt,if_neg h0,Sem.run_pure,Sem.run_ite,zeroV_run hz0]
            rw [this,h2]
            simp [newRow] <;> rfl
        · cases h
      · cases h
    · cases h
  · cases h
theorem aMake_ok {ty : TypeId} {len cap : LV} {len' cap' : Value} (hl : len.re σ = some len') (hc : cap.re σ = some cap') {x : LObj} {mk : Nat → LV} (h : aMake P ty len cap = some (x,mk)) :
    AllocOK P σ (do pure (.value (← Instr.makeSlice ty len' cap'))) x mk := by
  unfold aMake at h
  split at h
  · rename_i elem hs
    have hu := shape_slice hs
    split at h
    · rename_i size bytes z l c hsz hby hz hln hcn
      simp only [beq_dec,ble_dec,cond_eq_ite,decide_eq_true_eq,Bool.and_eq_true,fN_eq] at h
      split at h
      · rename_i hcond
        obtain ⟨hzl,hlc,hbig⟩ := hcond
        cases h
        obtain ⟨z0,hz0,rfl⟩ := zeroL_spec hz
        obtain ⟨i,hi,his,hib⟩ := info_of hsz hby
        have hzs : z0.cells.size = size := by simpa using hzl
        obtain ⟨k1,rfl⟩ := asNat_spec hln hl
        obtain ⟨k2,rfl⟩ := asNat_spec hcn hc
        have hcs : c ≤ 1000000 := by
          have : c * 1 ≤ c * (bytes + size + 1) := Nat.mul_le_mul_left c (by omega)
          omega
        have hcb : c * bytes ≤ 1000000 := Nat.le_trans (Nat.mul_le_mul_left c (by omega)) hbig
        have w1 : IntKind.i64.wrap (l : Int) = l := wrap_small (by omega)
        have w2 : IntKind.i64.wrap (c : Int) = c := wrap_small (by omega)
        have t1 : ¬ ((c : Int) < 0) := by omega
        have t2 : ¬ ((i.bytes : Int) * (c : Int) > 281474976710656) := by rw [hib,Int.mul_comm]; omega
        have t3 : ¬ ((l : Int) < 0) := by omega
        have t4 : ¬ ((l : Int) > (c : Int)) := by omega
        refine ⟨c,.cells (Builtin.zeroCells z0.cells c) elem (0,0),fun β => .slice (some ⟨β,0,none⟩) l c,cells_obj c hsz (by rw [zeroCells_eq]; exact re_prims_flatten _ _) (by rw [zeroCells_len,hzs]),fun w => ?_,fun σ' b β hb => by simp [LV.re,hb]⟩
        by_cases h0 : c * size = 0
        · have e1 : ((Array.range (c * size)).map (fun i => (#[] : Array Value)[i % (#[] : Array Value).size]!)) = Builtin.zeroCells z0.cells c := by
            have : (Builtin.zeroCells z0.cells c).size = 0 := by rw [zeroCells_len,hzs,h0]
            rw [h0,Array.eq_empty_of_size_eq_zero this]; simp
          have h00 : (c * size = 0) = True := eq_true h0
          simp [Instr.makeSlice,underlying_run hu,asInt,asIntOf,typeInfo_run hi,w1,w2,t1,t2,t3,t4,sizeOf_run hsz,h00,newRow]
          rw [h0] at e1
          simp [h0,← e1] <;> rfl
        · have e1 : ((Array.range (c * size)).map (fun i => z0.cells[i % z0.cells.size]!)) = Builtin.zeroCells z0.cells c := by rw [← hzs]; rfl
          simp [Instr.makeSlice,underlying_run hu,asInt,asIntOf,typeInfo_run hi,w1,w2,t1,t2,t3,t4,sizeOf_run hsz,h0,newRow,zeroV_run hz0]
          simp only [← e1] <;> rfl
      · cases h
    · cases h
  · cases h
theorem aMap_ok {t : Tr LV} {ρ : Operand → Value} (hρ : ∀ x,(ev t x).re σ = some (ρ x)) {ty : TypeId} {r : Option Operand} {x : LObj} {mk : Nat → LV} (h : aMap P t ty r = some (x,mk)) :
    AllocOK P σ (do pure (.value (← Instr.makeMap ty (r.map ρ)))) x mk := by
  have ho : ObjR P σ 0 (.map [] 0) (.map #[] 0) := ⟨#[],rfl,rfl,fun i e he => by simp at he⟩
  unfold aMap at h
  split at h
  · cases h
    exact ⟨0,.map #[] 0,fun β => .map (some β),ho,fun w => by simp [Instr.makeMap] <;> rfl,fun σ' b β hb => by simp [LV.re,hb]⟩
  · rename_i y
    split at h
    · rename_i k e n hs hn
      cases h
      obtain ⟨i,hi⟩ := asNat_spec hn (hρ y)
      have hu := shape_map hs
      exact ⟨0,.map #[] 0,fun β => .map (some β),ho,fun w => by simp [Instr.makeMap,underlying_run hu,hi,asInt,asIntOf] <;> rfl,fun σ' b β hb => by simp [LV.re,hb]⟩
    · cases h
theorem lalloc_ok {t : Tr LV} {ρ : Operand → Value} (hρ : ∀ x,(ev t x).re σ = some (ρ x)) (o : Oper) {x : LObj} {mk : Nat → LV} (h : lalloc P t o.op = some (x,mk)) : AllocOK P σ (execOp ρ o) x mk := by
  obtain ⟨dst,op,type,pos,af,g⟩ := o
  unfold lalloc at h
  cases op with
  | alloc elem => exact aAlloc_ok h
  | box elem y => simp only [fL_eq] at h; exact aBox_ok (hρ y) h
  | buildSlice ty len parts => exact aBuild_ok hρ h
  | makeSlice ty len cap => exact aMake_ok (hρ len) (hρ cap) h
  | makeMap ty r => exact aMap_ok hρ h
  | _ => cases h
theorem goes_alloc {h : H} {w : World} (s : Sim P σ h w) {x : LObj} {mk : Nat → LV} {sm : Sem Next} (ha : AllocOK P σ sm x mk) :
    OutOK P σ h w (sm.run P w) (h.new x (fun b h => .val (mk b) h) .no) := by
  obtain ⟨cap,obj,V,h1,h2,h3⟩ := ha
  refine new_elim (Φ := OutOK P σ h w (sm.run P w)) trivial fun hlt => ?_
  exact ⟨_,_,_,goes_new s hlt h1,h3 _ _ _ Sg.put_same,.inl (h2 w)⟩
end
end Go.Ev
namespace Go.Ev
open Go
section
variable {P : Program} {σ : Sg} {h : H} {w : World}
theorem lclear_ok (s : Sim P σ h w) {argTypes : Array TypeId} {type : TypeId} {x : LV} {x' : Value} (hx : x.re σ = some x') :
    OutV P σ h w ((Builtin.clear_ argTypes type #[x']).run P w) (lclear P h argTypes x) := by
  unfold lclear
  split
  · rename_i b off len cap op
    simp only [LV.re] at hx
    split at hx
    · rename_i p hp
      cases hx
      generalize (bif op then p.2 - cap else cap) = cap'
      split
      · rename_i elem hs
        obtain ⟨st,d,h0,hu,hds⟩ := firstShape_spec hs
        have hu : P.underlying st = some (.slice elem) := by rw [hu,shOf_slice hds]
        split
        · rename_i size z hsz hz
          unfold clearOn
          simp only [beq_dec,cond_eq_ite,decide_eq_true_eq]
          split
          · rename_i hl
            subst hl
            exact ⟨σ,w,_,Goes.refl s,rfl,by simp [Builtin.clear_,h0,underlying_run hu]⟩
          · rename_i hl
            split
            · rename_i hzl
              obtain ⟨z0,hz0,rfl⟩ := zeroL_spec hz
              generalize hR : (Builtin.clear_ argTypes type #[_]).run P w = R
              refine write_elim (Φ := OutV P σ h w R) s (re_prims_flatten z0.cells.toList len) hp trivial fun h' w' hg hrun => ?_
              refine ⟨σ,w',.tuple #[],hg,rfl,hR.symm.trans ?_⟩
              cases len with
              | zero => exact absurd rfl hl
              | succ n => simp [Builtin.clear_,h0,underlying_run hu,zeroV_run hz0,zeroCells_eq,hrun]
            · trivial
        · trivial
      · trivial
    · cases hx
  · trivial
theorem lcopy_ok (s : Sim P σ h w) {argTypes : Array TypeId} {type : TypeId} {x y : LV} {x' y' : Value} (hx : x.re σ = some x') (hy : y.re σ = some y') :
    OutV P σ h w ((Builtin.copy_ argTypes type #[x',y']).run P w) (lcopy P h argTypes x y) := by
  unfold lcopy
  split
  · rename_i b off len cap op b2 off2 len2 cap2 op2
    simp only [LV.re] at hx hy
    split at hx
    · rename_i p hp
      cases hx
      split at hy
      · rename_i p2 hp2
        cases hy
        generalize (bif op then p.2 - cap else cap) = cap'
        generalize (bif op2 then p2.2 - cap2 else cap2) = cap2'
        split
        · rename_i elem hs
          obtain ⟨st,d,h0,hu,hds⟩ := firstShape_spec hs
          have hu : P.underlying st = some (.slice elem) := by rw [hu,shOf_slice hds]
          split
          · rename_i size hsz
            simp only [ble_dec,cond_eq_ite,decide_eq_true_eq,fN_eq]
            have hn : (if len2 ≤ len then len2 else len) = Nat.min len2 len := by
              have : Nat.min len2 len = min len2 len := rfl
              rw [this]; split <;> omega
            rw [hn]
            unfold copyOn
            cases hr : h.read b2 off2 (Nat.min len2 len * size) with
            | none => exact True.intro
            | some vs =>
              dsimp only
              obtain ⟨c',elem',fz,o',k1,k2,k3,k4,k5⟩ := read_spec s hr hp2
              generalize hR : (Builtin.copy_ argTypes type #[_,_]).run P w = R
              refine write_elim (Φ := OutV P σ h w R) s k2 hp trivial fun h' w' hg hrun => ?_
              refine ⟨σ,w',_,hg,rfl,hR.symm.trans ?_⟩
              have hld := cells_run (P := P) k1 k3 k5
              simp [Builtin.copy_,h0,underlying_run hu,Builtin.lenOf,sizeOf_run hsz,Builtin.firstCells,hld,hrun]
          · trivial
        · trivial
      · cases hy
    · cases hx
  · trivial
theorem llenM_ok (s : Sim P σ h w) {argTypes : Array TypeId} {type : TypeId} {x : LV} {x' : Value} (hx : x.re σ = some x') :
    OutV P σ h w ((Builtin.len_ argTypes type #[x']).run P w) (llenM P h argTypes x) := by
  unfold llenM
  split
  · rename_i r
    simp only [LV.re] at hx
    split at hx
    · rename_i p hp
      cases hx
      split
      · rename_i k e es clock hs hb
        obtain ⟨st,d,h0,hu,hds⟩ := firstShape_spec hs
        have hu : P.underlying st = some (.map k e) := by rw [hu,shOf_map hds]
        obtain ⟨q,x,j1,j2,j3⟩ := s.obj r _ hb
        rw [hp] at j1; cases j1
        obtain ⟨es',rfl,e2,e3⟩ := j3
        refine ⟨σ,w,_,Goes.refl s,rfl,?_⟩
        simp [Builtin.len_,h0,underlying_run hu,getObj,Sem.run,j2,← e2]
      · trivial
    · cases hx
  · trivial
theorem isU8_spec {e : TypeId} (h : isU8 P e = true) : P.underlying e = some (.int .u8) ∧ sizeL P e = some 1 := by
  unfold isU8 at h
  split at h
  · rename_i h1 h2; exact ⟨shape_int h1,h2⟩
  · cases h
theorem bytesL_spec {cs : List LV} : ∀ {vs : List Value} {bs : List UInt8},LV.reL σ cs = some vs → bytesL cs = some bs → ∃ ns : List Int,vs = ns.map (.int .u8) ∧ bs = ns.map fun n => UInt8.ofNat n.toNat := by
  induction cs with
  | nil => intro vs bs h1 h2; simp [LV.reL] at h1; simp [bytesL] at h2; subst h1; subst h2; exact ⟨[],rfl,rfl⟩
  | cons v cs ih =>
    intro vs bs h1 h2
    obtain ⟨a,b,ha,hb,rfl⟩ := reL_cons.1 h1
    unfold bytesL at h2
    split at h2
    · rename_i h; cases h
    · rename_i n l heq
      cases heq
      simp [LV.re] at ha; subst ha
      split at h2
      · rename_i r hr
        cases h2
        obtain ⟨ns,e1,e2⟩ := ih hb hr
        exact ⟨n :: ns,by simp [e1],by simp [e2]⟩
      · cases h2
    · cases h2
theorem push_fold (ns : List Int) : ns.foldl (fun r n => r.push (UInt8.ofNat n.toNat)) ByteArray.empty = ⟨(ns.map fun n => UInt8.ofNat n.toNat).toArray⟩ := by
  have : ∀ (ns : List Int) (s : ByteArray),ns.foldl (fun r n => r.push (UInt8.ofNat n.toNat)) s = ⟨s.data ++ (ns.map fun n => UInt8.ofNat n.toNat).toArray⟩ := by
    intro ns
    induction ns with
    | nil => intro s; cases s; simp
    | cons n ns ih =>
      intro s
      rw [List.foldl_cons,ih]
      congr 1
      simp [ByteArray.push]
  rw [this]
  congr 1
  simp [ByteArray.empty,ByteArray.emptyWithCapacity]
  rfl
theorem lconv_ok (s : Sim P σ h w) {src dst : TypeId} {x : LV} {x' : Value} (hx : x.re σ = some x') :
    OutV P σ h w ((convert src dst x').run P w) (lconv P h src dst x) := by
  unfold lconv
  split
  · rename_i str
    simp [LV.re] at hx; subst hx
    split
    · rename_i e hs hd
      have hs := shape_string hs
      have hd := shape_slice hd
      cases hu8 : isU8 P e with
      | false => trivial
      | true =>
        obtain ⟨u1,u2⟩ := isU8_spec hu8
        simp only [cond_true]
        unfold toBytes
        split
        · simp only [beq_dec,ble_dec,cond_eq_ite,decide_eq_true_eq,fN_eq]
          split
          · rename_i hsize
            split
            · refine new_elim (Φ := OutV P σ h w _) trivial fun hlt => ?_
              have hforced : (Question.appendCap str.size 0 e).forced = false := rfl
              generalize hcap : (Question.appendCap str.size 0 e).cut (w.tape w.drawn (.appendCap str.size 0 e)) = cap
              have hle : str.size ≤ cap := by rw [← hcap]; simp [Question.cut]
              have hlen : (str.data.toList.map fun b => Value.int .u8 (b.toNat : Int)).length = str.size := by simp
              let c' : Array Value := (str.data.map fun b => Value.int .u8 (b.toNat : Int)) ++ Array.replicate (cap - str.size) (.int .u8 0)
              have hc' : c'.size = cap := by
                have : str.data.size = str.size := rfl
                simp only [c',Array.size_append,Array.size_map,Array.size_replicate]; omega
              have ho : ObjR P σ cap (.cells (str.data.toList.map fun b => .prim (.int .u8 b.toNat)) e [] false) (.cells c' e (cap,cap + 1)) := by
                refine ⟨c',(cap,cap + 1),1,rfl,u2,by simp; simp at hlen; omega,by omega,?_,fun i hi => by simp; omega⟩
                have : (str.data.toList.map fun b => LV.prim (.int .u8 (b.toNat : Int))) = (str.data.toList.map fun b => Value.int .u8 (b.toNat : Int)).map .prim := by simp
                rw [this,reL_prims]
                congr 1
                simp only [c',Array.toList_append,Array.toList_map,List.length_map]
                rw [List.take_append_of_le_length (by simp),List.take_of_length_le (by simp)]
              have hgo := goes_new (sim_drew s) hlt ho
              refine ⟨_,_,.slice (some ⟨w.heap.size,0,none⟩) str.size cap,Goes.trans (Goes.drawn (Goes.refl s) (w.drawn + 1)) hgo,by simp [LV.re,Sg.put_same],?_⟩
              simp only [convert,Sem.run_bind,underlying_run hs,underlying_run hd,Result.andThen_ok,underlying_run u1,Conv.stringToBytes,run_choose,hforced,hcap,Bool.false_eq_true,if_false,newRow,run_newObj,Sem.run_pure,markStringish,run_shape]
              have hsh : World.shape? { heap := w.heap.push (.cells c' e),tape := w.tape,drawn := w.drawn + 1,os := w.os,output := w.output } w.heap.size = some (e,cap) := by
                simp [World.shape?,hc']
              simp only [c'] at hsh
              rw [hsh]
              simp only [run_freeze,Result.andThen_ok]
              congr 1
              simp only [World.freeze,World.alloc,World.drew,if_neg (by decide : ¬ (1 = 0))]
              congr 1
              apply Array.ext_getElem?
              intro j
              rw [Array.getElem?_modify]
              by_cases hj : w.heap.size = j
              · subst hj; simp [c']
              · have hj' : ¬ j = w.heap.size := fun e => hj e.symm
                simp [hj,hj',Array.getElem?_push]
            · trivial
          · trivial
        · trivial
    · trivial
  · rename_i b off len cap op
    simp only [LV.re] at hx
    split at hx
    · rename_i p hp
      cases hx
      split
      · rename_i e hs hd
        have hs := shape_slice hs
        have hd := shape_string hd
        cases hu8 : isU8 P e with
        | false => trivial
        | true =>
          obtain ⟨u1,u2⟩ := isU8_spec hu8
          simp only [cond_true]
          unfold strOf bytesOpt
          cases hr : h.read b off len with
          | none => exact True.intro
          | some cs =>
            dsimp only
            cases hb : bytesL cs with
            | none => exact True.intro
            | some bs =>
              dsimp only
              obtain ⟨c',elem',fz,o',k1,k2,k3,k4,k5⟩ := read_spec s hr hp
              obtain ⟨ns,e1,e2⟩ := bytesL_spec k2 hb
              have hld := cells_run (P := P) k1 k3 k5
              refine ⟨σ,w,_,Goes.refl s,rfl,?_⟩
              rw [run_convert_bytes_string w src dst e _ _ _ hs u1 hd,run_bytesToString w _ _ _ ns (by rw [hld,e1])]
              congr 2
              rw [e2]
              exact push_fold ns
      · trivial
    · cases hx
  · trivial
end
end Go.Ev
namespace Go.Ev
open Go
section
variable {P : Program} {σ : Sg} {h : H} {w : World}
theorem slice_run {ty elem : TypeId} {size off l hh m len cap : Nat} {lo' hi' mx' : Option Value} (hu : P.underlying ty = some (.slice elem)) (hsz : sizeL P elem = some size) (β : Nat)
    (hb : (Instr.sliceBounds true len cap lo' hi' mx').run P w = .ok (l,hh,m) w) :
    (Instr.sliceAt ty (.slice (some ⟨β,off,none⟩) len cap) lo' hi' mx').run P w = .ok (.slice (some ⟨β,if m = l then off else off + l * size,none⟩) (hh - l) (m - l)) w := by
  simp only [Instr.sliceAt,Sem.run_bind,underlying_run hu,Result.andThen_ok,Instr.slice,hb,sizeOf_run hsz,Sem.run_pure]
  by_cases e : m = l
  · simp [e]
  · simp [e,addr_add]
theorem lsliceOpen_ok (s : Sim P σ h w) {ty : TypeId} {x : LV} {x' : Value} {lo hi mx : Option LV} {lo' hi' mx' : Option Value} (hx : x.re σ = some x') (h1 : OptR σ lo lo') (h2 : OptR σ hi hi') (h3 : OptR σ mx mx')
    {v : LV} (hv : lsliceOpen P h ty x lo hi mx = some v) : ∃ v',v.re σ = some v' ∧ (Instr.sliceAt ty x' lo' hi' mx').run P w = .ok v' w := by
  unfold lsliceOpen at hv
  split at hv
  · rename_i b off len cap
    simp only [LV.re] at hx
    split at hx
    · rename_i p hp
      cases hx
      simp only [cond_true]
      split at hv
      · rename_i elem hs
        have hu := shape_slice hs
        split at hv
        · rename_i size hsz
          unfold openOn at hv
          split at hv
          · rename_i c el kin old hb
            split at hv
            · rename_i l hh k1 k2
              simp only [beq_dec,blt_dec,cond_eq_ite,decide_eq_true_eq,Bool.and_eq_true] at hv
              split at hv
              · rename_i hc
                obtain ⟨hbnd,rfl,hoff,hpos⟩ := hc
                have hcl := len_le s hb hp hsz
                have room : ∀ k,off + k * size ≤ c.length → k ≤ p.2 - cap := fun k hk => by
                  have h5 : (cap + k) * size ≤ p.2 * size := by rw [Nat.add_mul,← hoff]; omega
                  have := Nat.le_of_mul_le_mul_right h5 hpos
                  omega
                unfold cutOpen at hv
                split at hv
                · rename_i mv
                  split at hv
                  · rename_i m hm
                    simp only [beq_dec,ble_dec,cond_eq_ite,decide_eq_true_eq,Bool.and_eq_true] at hv
                    split at hv
                    · rename_i hc2
                      obtain ⟨a1,a2,a3⟩ := hc2
                      cases hv
                      have k3 : natOr (some mv) (p.2 - cap) = some m := hm
                      have hr := bounds_run (P := P) (s := true) h1 h2 h3 k1 k2 k3 hbnd a1 a2 (room m a3) w
                      exact ⟨_,by simp [LV.re,hp],slice_run hu hsz p.1 hr⟩
                    · cases hv
                  · cases hv
                · simp only [beq_dec,ble_dec,blt_dec,cond_eq_ite,decide_eq_true_eq,Bool.and_eq_true] at hv
                  split at hv
                  · rename_i hfit
                    have a2 := room hh hfit
                    have k3 : natOr (none : Option LV) (p.2 - cap) = some (p.2 - cap) := rfl
                    split at hv
                    · rename_i hl
                      subst hl
                      cases hv
                      have hr := bounds_run (P := P) (s := true) h1 h2 h3 k1 k2 k3 hbnd (Nat.zero_le _) a2 (Nat.le_refl _) w
                      refine ⟨.slice (some ⟨p.1,off,none⟩) hh (p.2 - cap),by simp [LV.re,hp],?_⟩
                      rw [slice_run hu hsz p.1 hr]
                      simp
                    · split at hv
                      · rename_i hl hc2
                        obtain ⟨a1,a3⟩ := hc2
                        cases hv
                        have hr := bounds_run (P := P) (s := true) h1 h2 h3 k1 k2 k3 hbnd a1 a2 (Nat.le_refl _) w
                        have hne : ¬ (p.2 - cap = l) := fun e => by
                          have h5 : off + l * size < p.2 * size := by omega
                          have h6 : p.2 ≤ cap + l := by omega
                          have h7 := Nat.mul_le_mul_right size h6
                          rw [Nat.add_mul,← hoff] at h7
                          omega
                        refine ⟨.slice (some ⟨p.1,off + l * size,none⟩) (hh - l) (p.2 - cap - l),by simp [LV.re,hp,Nat.sub_sub],?_⟩
                        rw [slice_run hu hsz p.1 hr,if_neg hne]
                      · cases hv
                  · cases hv
              · cases hv
            · cases hv
          · cases hv
        · cases hv
      · cases hv
    · cases hx
  · cases hv
inductive EsR (σ : Sg) : List (Value × LV × Nat) → List MapEntry → Prop
  | nil : EsR σ [] []
  | cons {k : Value} {v : LV} {v' : Value} {n : Nat} {es : List (Value × LV × Nat)} {es' : List MapEntry} : v.re σ = some v' → EsR σ es es' → EsR σ ((k,v,n) :: es) (⟨k,v',n⟩ :: es')
theorem esR_of {es : List (Value × LV × Nat)} : ∀ {es' : List MapEntry},es'.length = es.length → (∀ (i : Nat) (e : Value × LV × Nat),es[i]? = some e → ∃ e' : MapEntry,es'[i]? = some e' ∧ e'.key = e.1 ∧ e'.born = e.2.2 ∧ e.2.1.re σ = some e'.val) → EsR σ es es' := by
  induction es with
  | nil => intro es' h _; cases es' with
    | nil => exact .nil
    | cons => simp at h
  | cons e es ih =>
    intro es' h1 h2
    cases es' with
    | nil => simp at h1
    | cons e' es' =>
      obtain ⟨k,v,n⟩ := e
      obtain ⟨e2,a1,a2,a3,a4⟩ := h2 0 _ rfl
      simp at a1
      subst a1
      obtain ⟨k',v',n'⟩ := e'
      simp at a2 a3 a4
      subst a2; subst a3
      exact .cons a4 (ih (by simpa using h1) fun i e he => by simpa using h2 (i + 1) e (by simpa using he))
theorem esR_to {es : List (Value × LV × Nat)} {es' : List MapEntry} (h : EsR σ es es') : es'.length = es.length ∧ ∀ (i : Nat) (e : Value × LV × Nat),es[i]? = some e → ∃ e' : MapEntry,es'[i]? = some e' ∧ e'.key = e.1 ∧ e'.born = e.2.2 ∧ e.2.1.re σ = some e'.val := by
  induction h with
  | nil => exact ⟨rfl,fun i e he => by simp at he⟩
  | cons hv _ ih =>
    refine ⟨by simp [ih.1],fun i e he => ?_⟩
    cases i with
    | zero => simp at he; subst he; exact ⟨_,rfl,rfl,rfl,hv⟩
    | succ i => simpa using ih.2 i e (by simpa using he)
theorem find_spec {kd : TypeDesc} {k : Value} {es : List (Value × LV × Nat)} {es' : List MapEntry} (hr : EsR σ es es') : ∀ (i : Nat),
    (findL kd k es i = some none → Instr.findNow kd k es' i = some none) ∧
    (∀ j v,findL kd k es i = some (some (j,v)) → ∃ v',v.re σ = some v' ∧ Instr.findNow kd k es' i = some (some (j,v')) ∧ i ≤ j ∧ ∃ e,es[j - i]? = some e ∧ Instr.sameNow kd k e.1 = some true) := by
  induction hr with
  | nil => intro i; exact ⟨fun _ => rfl,fun j v h => by simp [findL] at h⟩
  | @cons k0 v0 v0' n es es' hv hr ih =>
    intro i
    simp only [findL,Instr.findNow]
    cases hs : Instr.sameNow kd k k0 with
    | none => simp
    | some b =>
      cases b with
      | true =>
        refine ⟨fun h => by simp at h,fun j v h => ?_⟩
        simp only [Option.some.injEq,Prod.mk.injEq] at h
        obtain ⟨rfl,rfl⟩ := h
        exact ⟨v0',hv,rfl,Nat.le_refl _,(k0,v0,n),by simp,hs⟩
      | false =>
        obtain ⟨h1,h2⟩ := ih (i + 1)
        refine ⟨h1,fun j v h => ?_⟩
        obtain ⟨v',a1,a2,a3,e,a4,a5⟩ := h2 j v h
        refine ⟨v',a1,a2,by omega,e,?_,a5⟩
        rw [show j - i = (j - (i + 1)) + 1 by omega]
        simpa using a4
theorem mod_spec {es : List (Value × LV × Nat)} {es' : List MapEntry} (hr : EsR σ es es') {k : Value} {v : LV} {v' : Value} (hv : v.re σ = some v') : ∀ i,EsR σ (modL k v es i) (es'.modify i fun e => { e with key := k,val := v' }) := by
  induction hr with
  | nil => intro i; cases i <;> exact .nil
  | cons h hr ih =>
    intro i
    cases i with
    | zero => exact .cons hv hr
    | succ i => simpa [modL] using EsR.cons h (ih i)
theorem snoc_spec {es : List (Value × LV × Nat)} {es' : List MapEntry} (hr : EsR σ es es') {k : Value} {v : LV} {v' : Value} (n : Nat) (hv : v.re σ = some v') : EsR σ (es ++ [(k,v,n)]) (es' ++ [⟨k,v',n⟩]) := by
  induction hr with
  | nil => exact .cons hv .nil
  | cons h _ ih => exact .cons h ih
theorem keyKind_spec {kt : TypeId} {kd : TypeDesc} (h : keyKind P kt = some kd) : P.underlying kt = some kd ∧ ((∃ k,kd = .int k) ∨ kd = .string ∨ kd = .bool) := by
  unfold keyKind at h
  split at h <;> cases h
  · rename_i k hk; exact ⟨hk,.inl ⟨k,rfl⟩⟩
  · rename_i hk; exact ⟨hk,.inr (.inl rfl)⟩
  · rename_i hk; exact ⟨hk,.inr (.inr rfl)⟩
theorem checkKey_run {kt : TypeId} {kd : TypeDesc} (h : keyKind P kt = some kd) (e : Bool) (k : Value) : (Instr.checkKey e 10000 kt k).run P w = .ok () w := by
  obtain ⟨hu,hk⟩ := keyKind_spec h
  show (Instr.checkKey e (9999 + 1) kt k).run P w = _
  unfold Instr.checkKey
  rcases hk with ⟨i,rfl⟩ | rfl | rfl <;> simp [underlying_run hu]
theorem ba_comm (a b : ByteArray) (h : (a == b) = true) : (b == a) = true := by
  have h1 : (a.data == b.data) = true := h
  have e : a.data = b.data := eq_of_beq h1
  show (b.data == a.data) = true
  rw [e]; exact beq_self_eq_true _
theorem sameNow_bits {kd : TypeDesc} {k e : Value} (h : Instr.sameNow kd k e = some true) : Instr.sameBits 10000 e k = true := by
  unfold Instr.sameNow at h
  split at h
  · split at h
    · rename_i hk; simp at h; subst hk; subst h; simp [Instr.sameBits]
    · cases h
  · simp only [Option.some.injEq] at h; exact ba_comm _ _ h
  · simp at h; simp [Instr.sameBits,h]
  · cases h
theorem map_obj (s : Sim P σ h w) {r : Nat} {es : List (Value × LV × Nat)} {clock : Nat} {p : Nat × Nat} (hb : h.m.get r = some (.map es clock)) (hp : σ r = some p) :
    ∃ es' : Array MapEntry,w.heap[p.1]? = some (.map es' clock) ∧ EsR σ es es'.toList := by
  obtain ⟨q,x,j1,j2,j3⟩ := s.obj r _ hb
  rw [hp] at j1; cases j1
  obtain ⟨es',rfl,e2,e3⟩ := j3
  exact ⟨es',j2,esR_of (by simpa using e2) (by simpa using e3)⟩
theorem llookup_ok (s : Sim P σ h w) {ty : TypeId} {x ix : LV} {x' ix' : Value} {ok : Bool} (hx : x.re σ = some x') (hi : ix.re σ = some ix') :
    OutV P σ h w ((Instr.lookup ty x' ix' ok).run P w) (llookup P h ty x ix ok) := by
  unfold llookup
  split
  · rename_i k
    simp [LV.re] at hi; subst hi
    split
    · simp [LV.re] at hx; subst hx
      split
      · rename_i v hv; exact ⟨σ,w,v,Goes.refl s,rfl,look_ok P _ v hv w⟩
      · trivial
    · rename_i r
      simp only [LV.re] at hx
      split at hx
      · rename_i p hp
        cases hx
        split
        · rename_i kt et hs
          have hu := shape_map hs
          unfold lookIn
          split
          · rename_i es clock kd hb hk
            obtain ⟨es',k1,k2⟩ := map_obj s hb hp
            obtain ⟨hku,_⟩ := keyKind_spec hk
            obtain ⟨f1,f2⟩ := find_spec (kd := kd) (k := k) k2 0
            unfold found
            split
            · rename_i j v hf
              obtain ⟨v',a1,a2,_⟩ := f2 j v hf
              refine ⟨σ,w,_,Goes.refl s,okPair_re a1,?_⟩
              cases ok <;> simp [Instr.lookup,underlying_run hu,getObj,Sem.run,k1,checkKey_run hk,Instr.findKey,underlying_run hku,a2]
            · rename_i hf
              split
              · rename_i z hz
                refine ⟨σ,w,_,Goes.refl s,okPair_re (v' := z) rfl,?_⟩
                cases ok <;> simp [Instr.lookup,underlying_run hu,getObj,Sem.run,k1,checkKey_run hk,Instr.findKey,underlying_run hku,f1 hf,zeroV_run hz]
              · trivial
            · trivial
          · trivial
        · trivial
      · cases hx
    · trivial
  · trivial
theorem lupdate_ok (s : Sim P σ h w) {ty : TypeId} {m k v : LV} {m' k' v' : Value} (hm : m.re σ = some m') (hk : k.re σ = some k') (hv : v.re σ = some v') :
    OutOK P σ h w ((do Instr.mapUpdate ty m' k' v'; pure .skip : Sem Next).run P w) (lupdate P h ty m k v) := by
  unfold lupdate
  split
  · rename_i r k
    simp [LV.re] at hk; subst hk
    simp only [LV.re] at hm
    split at hm
    · rename_i p hp
      cases hm
      split
      · rename_i kt et hs
        have hu := shape_map hs
        unfold putIn
        split
        · rename_i es clock kd hb hk
          obtain ⟨es',k1,k2⟩ := map_obj s hb hp
          obtain ⟨hku,_⟩ := keyKind_spec hk
          obtain ⟨f1,f2⟩ := find_spec (kd := kd) (k := k) k2 0
          have hlt2 := (s.next _ _ hp).2
          have put : ∀ (es2 : List (Value × LV × Nat)) (es2' : Array MapEntry) (clock2 : Nat),EsR σ es2 es2'.toList →
              (Instr.mapUpdate ty (.map (some p.1)) k v').run P w = .ok () { w with heap := w.heap.setIfInBounds p.1 (.map es2' clock2) } →
              OutOK P σ h w ((do Instr.mapUpdate ty (.map (some p.1)) k v'; pure .skip : Sem Next).run P w) (h.set r (some (.map es2 clock2)) (fun h => .val undefL h) .no) := by
            intro es2 es2' clock2 hes hrun
            generalize hR : (do Instr.mapUpdate ty (.map (some p.1)) k v'; pure .skip : Sem Next).run P w = R
            refine set_elim (Φ := OutOK P σ h w R) trivial fun hlt => ?_
            obtain ⟨l1,l2⟩ := esR_to hes
            exact ⟨σ,{ w with heap := w.heap.setIfInBounds p.1 (.map es2' clock2) },undef,goes_set s hb rfl rfl hp hlt (o1 := .map es2 clock2) (x1 := .map es2' clock2) ⟨es2',rfl,by simpa using l1,by simpa using l2⟩ rfl rfl rfl rfl,rfl,.inr ⟨by rw [← hR]; simp [hrun],rfl⟩⟩
          unfold putFound
          split
          · rename_i j u hf
            obtain ⟨u',a1,a2,a3,e,a4,a5⟩ := f2 j u hf
            simp only [Nat.sub_zero] at a4
            obtain ⟨e',b1,b2,b3,b4⟩ := (esR_to k2).2 j e a4
            have hkey : ((es'[j]?).map (·.key)).getD k = e.1 := by
              have : es'[j]? = some e' := by simpa using b1
              simp [this,b2]
            refine put _ (es'.modify j fun e => { e with key := k,val := v' }) _ (by simpa using mod_spec k2 hv j) ?_
            simp [Instr.mapUpdate,underlying_run hu,getObj,Sem.run,k1,checkKey_run hk,Instr.findKey,underlying_run hku,a2,hkey,Instr.keyThatStays,sameNow_bits a5,setObj]
          · rename_i hf
            refine put _ (es'.push ⟨k,v',clock⟩) _ (by simpa using snoc_spec k2 clock hv) ?_
            simp [Instr.mapUpdate,underlying_run hu,getObj,Sem.run,k1,checkKey_run hk,Instr.findKey,underlying_run hku,f1 hf,setObj]
          · trivial
        · trivial
      · trivial
    · cases hm
  · trivial
end
end Go.Ev
