/- A part of the proof: texts of this session, joined. -/
import Derived.Test.YtjojbhkgdkcaoaaGreatPart2
import Derived.Test.YtjojbhkgdkcaoaaGreatShort
set_option linter.unusedSimpArgs false
set_option linter.unusedVariables false
namespace Go.Ev
open Go
section
variable {P : Program} {σ : Sg} {h : H} {w : World}
theorem callFunc_run {f : FuncId} {fn : Func} {c : Code} (hf : P.funcs[f]? = some fn) (hb : fn.body = some c) (hn : (fn.name == "runtime.NumGoroutine") = false) (args : Array Value) :
  (callFunc f args).run P w = .ok (.enter f args) w := by
 have hn' : ¬ fn.name = "runtime.NumGoroutine" := fun e => by rw [e] at hn; simp at hn
 simp [callFunc,hf,hb,hn']
theorem lcall_ok (s : Sim P σ h w) {f : FuncId} {args : List LV} {args' : Array Value} (ha : LV.reL σ args = some args'.toList) :
  OutOK P σ h w ((callFunc f args').run P w) (lcall P h f args) := by
 unfold lcall
 split
 ·rename_i fn hf
  cases hb : fn.body with
  | some c =>
   simp only [Option.isSome_some,cond_true]
   cases hn : fn.name == "runtime.NumGoroutine" with
   | true => trivial
   | false => exact ⟨args',ha,callFunc_run hf hb hn args'⟩
  | none =>
   simp only [Option.isSome_none,cond_false]
   unfold lextern
   split
   ·rename_i vs hv
    rw [primsL_eq hv,reL_prims] at ha
    simp only [Option.some.injEq] at ha
    have : args' = vs.toArray := by rw [ha]
    subst this
    unfold outNext
    split
    ·rename_i v hl
     exact ⟨σ,w,v,Goes.refl s,rfl,.inl (look_ok P _ _ hl w)⟩
    ·trivial
   ·trivial
 ·trivial
theorem callValue_ok (s : Sim P σ h w) {f : LV} {f' : Value} {args : List LV} {args' : Array Value} (hf : f.re σ = some f') (ha : LV.reL σ args = some args'.toList) :
  OutOK P σ h w ((do let d ← Deferred.ofValue f' args'; invoke d.target d.args : Sem Next).run P w) (callValue P h f args) := by
 unfold callValue
 split
 ·rename_i v
  simp [LV.re] at hf; subst hf
  unfold callPrim
  split
  ·rename_i g first captured
   have e : (do let d ← Deferred.ofValue (.func (.func g) first captured) args'; invoke d.target d.args : Sem Next).run P w = (callFunc g (first ++ args' ++ captured)).run P w := by
    simp [Deferred.ofValue,invoke]
   rw [e]
   refine lcall_ok s ?_
   simp only [Array.toList_append,List.append_assoc]
   exact reL_append (reL_prims _) (reL_append ha (reL_prims _))
  ·trivial
 ·rename_i fn first captured
  unfold callFn
  split
  ·rename_i g
   simp only [LV.re] at hf
   split at hf
   ·rename_i fs cs h1 h2
    cases hf
    have e : (do let d ← Deferred.ofValue (.func (.func g) fs.toArray cs.toArray) args'; invoke d.target d.args : Sem Next).run P w = (callFunc g (fs.toArray ++ args' ++ cs.toArray)).run P w := by
     simp [Deferred.ofValue,invoke]
    rw [e]
    refine lcall_ok s ?_
    simp only [Array.toList_append,List.append_assoc]
    exact reL_append h1 (reL_append ha h2)
   ·cases hf
  ·trivial
 ·rename_i l
  simp only [LV.re] at hf
  split at hf
  ·rename_i p hp
   cases hf
   exact ⟨p,args',hp,ha,by simp [Deferred.ofValue,invoke]⟩
  ·cases hf
 ·trivial
theorem two_args {xs : Array Value} {a b : Value} (h : xs.toList = [a,b]) : xs = #[a,b] := by rw [← Array.toArray_toList (xs := xs),h]
theorem one_arg {xs : Array Value} {a : Value} (h : xs.toList = [a]) : xs = #[a] := by rw [← Array.toArray_toList (xs := xs),h]
theorem lbuiltin_ok (s : Sim P σ h w) {b : Builtin} {argTypes : Array TypeId} {type : TypeId} {consts : Array Bool} {args : List LV} {args' : Array Value} (ha : LV.reL σ args = some args'.toList) :
  OutOK P σ h w ((builtin b argTypes type consts args').run P w) (lbuiltin P h b argTypes args) := by
 unfold lbuiltin
 split
 ·split
  ·obtain ⟨x',l,h1,h2,h3⟩ := reL_cons.1 ha
   obtain ⟨y',l',h4,h5,rfl⟩ := reL_cons.1 h2
   simp [LV.reL] at h5; subst h5
   rw [two_args h3]
   exact OutV.next (lappend_ok s h1 h4)
  ·trivial
 ·split
  ·simp [builtin]; exact rfl
  ·trivial
 ·split
  ·obtain ⟨x',l,h1,h2,h3⟩ := reL_cons.1 ha
   simp [LV.reL] at h2; subst h2
   rw [one_arg h3]
   exact OutV.next (llenM_ok s h1)
  ·trivial
 ·split
  ·obtain ⟨x',l,h1,h2,h3⟩ := reL_cons.1 ha
   simp [LV.reL] at h2; subst h2
   rw [one_arg h3]
   exact OutV.next (lclear_ok s h1)
  ·trivial
 ·split
  ·obtain ⟨x',l,h1,h2,h3⟩ := reL_cons.1 ha
   obtain ⟨y',l',h4,h5,rfl⟩ := reL_cons.1 h2
   simp [LV.reL] at h5; subst h5
   rw [two_args h3]
   exact OutV.next (lcopy_ok s h1 h4)
  ·trivial
 ·trivial
theorem lcallOp_ok {t : Tr LV} {ρ : Operand → Value} (hρ : ∀ x,(ev t x).re σ = some (ρ x)) (s : Sim P σ h w) {dst : Option Tmp} {c : Call} {type : TypeId} {pos : String} {af : Array Edge} {g : Option (Nat × Bool)} :
  OutOK P σ h w ((execOp ρ ⟨dst,.call c,type,pos,af,g⟩).run P w) (lcallOp P t h c) := by
 unfold lcallOp
 have ha := argsL_re hρ c.args
 split
 ·rename_i b hc
  have he : execOp ρ ⟨dst,.call c,type,pos,af,g⟩ = builtin b c.argTypes type (c.args.map fun | .const _ => true | _ => false) (c.args.map ρ) := by
   simp only [execOp,resolve,hc]; rfl
  rw [he]
  exact lbuiltin_ok s ha
 ·rename_i f hc
  have he : execOp ρ ⟨dst,.call c,type,pos,af,g⟩ = (do let d ← Deferred.ofValue (ρ f) (c.args.map ρ); invoke d.target d.args : Sem Next) := by
   simp only [execOp,resolve,hc]
  rw [he]
  exact callValue_ok s (hρ f) ha
 ·trivial
theorem ldefer_ok {t : Tr LV} {ρ : Operand → Value} (hρ : ∀ x,(ev t x).re σ = some (ρ x)) {dst : Option Tmp} {c : Call} {type : TypeId} {pos : String} {af : Array Edge} {g : Option (Nat × Bool)} :
  OutOK P σ h w ((execOp ρ ⟨dst,.defer c,type,pos,af,g⟩).run P w) (ldefer t c) := by
 unfold ldefer
 have ha := argsL_re hρ c.args
 split
 ·rename_i f hc
  have hf := hρ f
  unfold deferValue
  split
  ·rename_i k first captured heq
   rw [heq] at hf
   simp [LV.re] at hf
   refine ⟨{ target := .fn (.func k) captured,args := first ++ c.args.map ρ },⟨captured,first ++ c.args.map ρ,rfl,?_⟩,?_⟩
   ·simp only [Array.toList_append,List.append_assoc]
    exact reL_append (reL_prims _) (reL_append ha (reL_prims _))
   ·simp [execOp,resolve,hc,← hf,Deferred.ofValue]
  ·rename_i k first captured heq
   rw [heq] at hf
   simp only [LV.re] at hf
   split at hf
   ·rename_i fs cs h1 h2
    simp only [Option.some.injEq] at hf
    refine ⟨{ target := .fn (.func k) cs.toArray,args := fs.toArray ++ c.args.map ρ },⟨cs.toArray,fs.toArray ++ c.args.map ρ,rfl,?_⟩,?_⟩
    ·simp only [Array.toList_append,List.append_assoc]
     exact reL_append h1 (reL_append ha h2)
    ·simp [execOp,resolve,hc,← hf,Deferred.ofValue]
   ·cases hf
  ·trivial
 ·trivial
theorem lpanic_ok {v : LV} {v' : Value} (hv : v.re σ = some v') : OutOK P σ h w ((do pure (.value (← Instr.panic v')) : Sem Next).run P w) (lpanic v) := by
 unfold lpanic
 split
 ·simp [LV.re] at hv; subst hv
  exact ⟨_,rfl,by simp [Instr.panic]⟩
 ·have hv' := hv
  simp only [LV.re] at hv
  split at hv
  ·cases hv
   exact ⟨_,hv',by simp [Instr.panic]⟩
  ·cases hv
 ·trivial
theorem lheap_ok {t : Tr LV} {ρ : Operand → Value} (hρ : ∀ x,(ev t x).re σ = some (ρ x)) (s : Sim P σ h w) (o : Oper) : OutOK P σ h w ((execOp ρ o).run P w) (lheap P t h o.op) := by
 obtain ⟨dst,op,type,pos,af,g⟩ := o
 unfold lheap
 cases op with
 | load ty a => exact lload_ok s (hρ a)
 | store ty a x => simp only [fL_eq]; exact lstore_ok s (hρ a) (hρ x)
 | convert src dst x => exact OutV.next (lconv_ok s (hρ x))
 | slice ty x lo hi mx =>
  show OutOK P σ h w _ (optL h _)
  cases hv : lsliceOpen P h ty (ev t x) (lo.map (ev t)) (hi.map (ev t)) (mx.map (ev t)) with
  | none => trivial
  | some v =>
   obtain ⟨v',h1,h2⟩ := lsliceOpen_ok s (hρ x) (optR_map hρ lo) (optR_map hρ hi) (optR_map hρ mx) hv
   exact ⟨σ,w,v',Goes.refl s,h1,.inl (by simp [execOp,h2])⟩
 | lookup ty x ix ok => exact OutV.next (llookup_ok s (hρ x) (hρ ix))
 | mapUpdate ty m k x => simp only [fL_eq]; exact lupdate_ok s (hρ m) (hρ k) (hρ x)
 | call c => exact lcallOp_ok hρ s
 | defer c => exact ldefer_ok hρ
 | panic x => exact lpanic_ok (hρ x)
 | _ => trivial
theorem lop_ok {t : Tr LV} {ρ : Operand → Value} (hρ : ∀ x,(ev t x).re σ = some (ρ x)) (s : Sim P σ h w) (o : Oper) : OutOK P σ h w ((execOp ρ o).run P w) (lop P t h o.op o.type) := by
 unfold lop
 split
 ·have hp := lpure_ok (P := P) hρ o
  cases hr : lpure P t o.op o.type with
  | ok v => rw [hr] at hp; obtain ⟨v',h1,h2⟩ := hp; exact ⟨σ,w,v',Goes.refl s,h1,.inl (h2 w)⟩
  | panic v => rw [hr] at hp; exact ⟨v,rfl,hp w⟩
  | no => exact lheap_ok hρ s o
 ·unfold outAlloc
  split
  ·rename_i x mk hx
   exact goes_alloc s (lalloc_ok hρ o hx)
  ·trivial
 ·exact lheap_ok hρ s o
end
end Go.Ev
namespace Go.Ev
open Go
section
variable {P : Program} {fn : FuncId} {tmps : Array Value} {k : List Item} {ds : List Deferred} {kind : CallKind} {r : Option Nat} {cs : List Frame} {w : World}
theorem st_skip : step P (lone ⟨fn,tmps,.code .skip :: k,ds,.run,kind,r⟩ cs w) = .next (lone ⟨fn,tmps,k,ds,.run,kind,r⟩ cs w) := step_lone_go (by simp [stepG,stepG.exec])
theorem st_label {l : Nat} : step P (lone ⟨fn,tmps,.code (.label l) :: k,ds,.run,kind,r⟩ cs w) = .next (lone ⟨fn,tmps,k,ds,.run,kind,r⟩ cs w) := step_lone_go (by simp [stepG,stepG.exec])
theorem st_inBlock {id : Nat} : step P (lone ⟨fn,tmps,.inBlock id :: k,ds,.run,kind,r⟩ cs w) = .next (lone ⟨fn,tmps,k,ds,.run,kind,r⟩ cs w) := step_lone_go (by simp [stepG,stepG.exec])
theorem st_inScope {c : Code} : step P (lone ⟨fn,tmps,.inScope c :: k,ds,.run,kind,r⟩ cs w) = .next (lone ⟨fn,tmps,k,ds,.run,kind,r⟩ cs w) := step_lone_go (by simp [stepG,stepG.exec])
theorem st_seq {a b : Code} : step P (lone ⟨fn,tmps,.code (.seq a b) :: k,ds,.run,kind,r⟩ cs w) = .next (lone ⟨fn,tmps,.code a :: .code b :: k,ds,.run,kind,r⟩ cs w) := step_lone_go (by simp [stepG,stepG.exec])
theorem st_block {id : Nat} {c : Code} : step P (lone ⟨fn,tmps,.code (.block id c) :: k,ds,.run,kind,r⟩ cs w) = .next (lone ⟨fn,tmps,.code c :: .inBlock id :: k,ds,.run,kind,r⟩ cs w) := step_lone_go (by simp [stepG,stepG.exec])
theorem st_loop {c : Code} : step P (lone ⟨fn,tmps,.code (.loop c) :: k,ds,.run,kind,r⟩ cs w) = .next (lone ⟨fn,tmps,.code c :: .inLoop c :: k,ds,.run,kind,r⟩ cs w) := step_lone_go (by simp [stepG,stepG.exec])
theorem st_inLoop {c : Code} : step P (lone ⟨fn,tmps,.inLoop c :: k,ds,.run,kind,r⟩ cs w) = .next (lone ⟨fn,tmps,.code c :: .inLoop c :: k,ds,.run,kind,r⟩ cs w) := step_lone_go (by simp [stepG,stepG.exec])
theorem st_scope {c : Code} : step P (lone ⟨fn,tmps,.code (.scope c) :: k,ds,.run,kind,r⟩ cs w) = .next (lone ⟨fn,tmps,.code c :: .inScope c :: k,ds,.run,kind,r⟩ cs w) := step_lone_go (by simp [stepG,stepG.exec])
theorem st_cond {c : Operand} {a b : Code} {t : Bool} (hc : (⟨fn,tmps,.code (.cond c a b) :: k,ds,.run,kind,r⟩ : Frame).eval c = .bool t) :
  step P (lone ⟨fn,tmps,.code (.cond c a b) :: k,ds,.run,kind,r⟩ cs w) = .next (lone ⟨fn,tmps,.code (if t then a else b) :: k,ds,.run,kind,r⟩ cs w) := step_lone_go (by simp [stepG,stepG.exec,hc])
theorem st_exit {id : Nat} {k' : List Item} (hk : exitTo id k = some k') : step P (lone ⟨fn,tmps,.code (.exit id) :: k,ds,.run,kind,r⟩ cs w) = .next (lone ⟨fn,tmps,k',ds,.run,kind,r⟩ cs w) :=
 step_lone_go (by simp [stepG,stepG.exec,hk])
theorem st_goto {l : Nat} {k' : List Item} (hk : gotoIn l k = some k') : step P (lone ⟨fn,tmps,.code (.goto l) :: k,ds,.run,kind,r⟩ cs w) = .next (lone ⟨fn,tmps,k',ds,.run,kind,r⟩ cs w) :=
 step_lone_go (by simp [stepG,stepG.exec,hk])
theorem st_ret : step P (lone ⟨fn,tmps,.code .ret :: k,ds,.run,kind,none⟩ cs w) = .next (lone ⟨fn,tmps,.code .ret :: k,ds,.returning,kind,none⟩ cs w) := step_lone_go (by simp [stepG,stepG.exec])
theorem st_end : step P (lone ⟨fn,tmps,[],ds,.run,kind,none⟩ cs w) = .next (lone ⟨fn,tmps,[],ds,.returning,kind,none⟩ cs w) := step_lone_go (by simp [stepG,stepG.exec])
theorem st_region {id : Nat} {ops : Array Oper} : step P (lone ⟨fn,tmps,.code (.region id ops false) :: k,ds,.run,kind,r⟩ cs w) = .next (lone ⟨fn,tmps,.inRegion ops (List.range ops.size) :: k,ds,.run,kind,r⟩ cs w) :=
 step_lone_go (by simp [stepG,stepG.exec])
theorem st_draw {id : Nat} {ops : Array Oper} : step P (lone ⟨fn,tmps,.code (.region id ops true) :: k,ds,.run,kind,r⟩ cs w) =
  .next (lone ⟨fn,tmps,.inRegion ops (Region.schedule (P.follows .mixedOrders) ops (w.tape w.drawn (.order fn id))) :: k,ds,.run,kind,r⟩ cs { w with drawn := w.drawn + 1 }) :=
 step_lone_go (by simp [stepG,stepG.exec,choose,Sem.run,Question.forced,Question.cut])
theorem st_regionEnd {ops : Array Oper} : step P (lone ⟨fn,tmps,.inRegion ops [] :: k,ds,.run,kind,r⟩ cs w) = .next (lone ⟨fn,tmps,k,ds,.run,kind,r⟩ cs w) := step_lone_go (by simp [stepG,stepG.exec])
def putA (tmps : Array Value) (d : Option Tmp) (v : Value) : Array Value := match d with
 | some d => tmps.setIfInBounds d v
 | none => tmps
section ops
variable {ops : Array Oper} {i : Nat} {rest : List Nat} {o : Oper}
theorem finish_op (ho : ops[i]? = some o) (v : Value) {m : FrameMode} : (⟨fn,tmps,.inRegion ops (i :: rest) :: k,ds,m,kind,r⟩ : Frame).finish v = ⟨fn,putA tmps o.dst v,.inRegion ops rest :: k,ds,m,kind,r⟩ := by
 simp only [Frame.finish,ho,Option.bind_some,putA]; cases o.dst <;> rfl
theorem st_unwanted (ho : ops[i]? = some o) (hw : Region.wanted o (yielded ops tmps) = false) :
  step P (lone ⟨fn,tmps,.inRegion ops (i :: rest) :: k,ds,.run,kind,r⟩ cs w) = .next (lone ⟨fn,putA tmps o.dst undef,.inRegion ops rest :: k,ds,.run,kind,r⟩ cs w) := by
 rw [← finish_op ho undef]
 exact step_lone_go (by simp [stepG,stepG.exec,ho,hw])
theorem stepG_opF (ho : ops[i]? = some o) (hw : Region.wanted o (yielded ops tmps) = true) (hd : r = none ∨ ∀ c,o.op ≠ .defer c) :
  stepG P true { frame := ⟨fn,tmps,.inRegion ops (i :: rest) :: k,ds,.run,kind,r⟩,callers := cs,status := .running,dying := none } w =
   stepG.apply P true ⟨fn,tmps,.inRegion ops (i :: rest) :: k,ds,.run,kind,r⟩ cs none (execOp (⟨fn,tmps,.inRegion ops (i :: rest) :: k,ds,.run,kind,r⟩ : Frame).eval o) w := by
 simp only [stepG,stepG.exec,ho,Option.map_some,hw,Option.getD_some,if_true,stepG.oper,Frame.oper?]
 rcases hd with rfl | hd
 ·rfl
 ·cases r with
  | none => rfl
  | some l =>
   split
   ·rename_i l' c h1 h2; exact absurd h2 (hd c)
   ·rfl
variable {w' : World}
theorem st_value (ho : ops[i]? = some o) (hw : Region.wanted o (yielded ops tmps) = true) (hd : r = none ∨ ∀ c,o.op ≠ .defer c) {v : Value} (hr : (execOp (⟨fn,tmps,.inRegion ops (i :: rest) :: k,ds,.run,kind,r⟩ : Frame).eval o).run P w = .ok (.value v) w') :
  step P (lone ⟨fn,tmps,.inRegion ops (i :: rest) :: k,ds,.run,kind,r⟩ cs w) = .next (lone ⟨fn,putA tmps o.dst v,.inRegion ops rest :: k,ds,.run,kind,r⟩ cs w') := by
 rw [← finish_op ho v]
 exact step_lone_go (by rw [stepG_opF ho hw hd]; simp [stepG.apply,hr])
theorem st_skipOp (ho : ops[i]? = some o) (hw : Region.wanted o (yielded ops tmps) = true) (hd : r = none ∨ ∀ c,o.op ≠ .defer c) (hr : (execOp (⟨fn,tmps,.inRegion ops (i :: rest) :: k,ds,.run,kind,r⟩ : Frame).eval o).run P w = .ok .skip w') :
  step P (lone ⟨fn,tmps,.inRegion ops (i :: rest) :: k,ds,.run,kind,r⟩ cs w) = .next (lone ⟨fn,putA tmps o.dst undef,.inRegion ops rest :: k,ds,.run,kind,r⟩ cs w') := by
 rw [← finish_op ho undef]
 exact step_lone_go (by rw [stepG_opF ho hw hd]; simp [stepG.apply,hr])
theorem st_enter (ho : ops[i]? = some o) (hw : Region.wanted o (yielded ops tmps) = true) (hd : r = none ∨ ∀ c,o.op ≠ .defer c) {f : FuncId} {args : Array Value} (hr : (execOp (⟨fn,tmps,.inRegion ops (i :: rest) :: k,ds,.run,kind,r⟩ : Frame).eval o).run P w = .ok (.enter f args) w') :
  step P (lone ⟨fn,tmps,.inRegion ops (i :: rest) :: k,ds,.run,kind,r⟩ cs w) = .next (lone (Frame.enter P f args .normal) (⟨fn,tmps,.inRegion ops (i :: rest) :: k,ds,.run,kind,r⟩ :: cs) w') :=
 step_lone_go (by rw [stepG_opF ho hw hd]; simp [stepG.apply,hr])
theorem st_round (ho : ops[i]? = some o) (hw : Region.wanted o (yielded ops tmps) = true) (hd : r = none ∨ ∀ c,o.op ≠ .defer c) {l : Nat} {f : FuncId} {t : Array Value} {a b : Code} (hr : (execOp (⟨fn,tmps,.inRegion ops (i :: rest) :: k,ds,.run,kind,r⟩ : Frame).eval o).run P w = .ok (.round l f t a b) w') :
  step P (lone ⟨fn,tmps,.inRegion ops (i :: rest) :: k,ds,.run,kind,r⟩ cs w) = .next (lone (Frame.round l f t a b .normal) (⟨fn,tmps,.inRegion ops (i :: rest) :: k,ds,.run,kind,r⟩ :: cs) w') :=
 step_lone_go (by rw [stepG_opF ho hw hd]; simp [stepG.apply,hr])
theorem st_defer (ho : ops[i]? = some o) (hw : Region.wanted o (yielded ops tmps) = true) (hd : r = none ∨ ∀ c,o.op ≠ .defer c) {d : Deferred} (hr : (execOp (⟨fn,tmps,.inRegion ops (i :: rest) :: k,ds,.run,kind,r⟩ : Frame).eval o).run P w = .ok (.defer d) w') :
  step P (lone ⟨fn,tmps,.inRegion ops (i :: rest) :: k,ds,.run,kind,r⟩ cs w) = .next (lone ⟨fn,putA tmps o.dst undef,.inRegion ops rest :: k,d :: ds,.run,kind,r⟩ cs w') := by
 rw [← finish_op ho undef]
 exact step_lone_go (by rw [stepG_opF ho hw hd]; simp [stepG.apply,hr])
theorem st_panic (ho : ops[i]? = some o) (hw : Region.wanted o (yielded ops tmps) = true) (hd : r = none ∨ ∀ c,o.op ≠ .defer c) {v : Value} (hr : (execOp (⟨fn,tmps,.inRegion ops (i :: rest) :: k,ds,.run,kind,r⟩ : Frame).eval o).run P w = .halt (.panic v) w') :
  step P (lone ⟨fn,tmps,.inRegion ops (i :: rest) :: k,ds,.run,kind,r⟩ cs w) = .next (lone ⟨fn,tmps,.inRegion ops (i :: rest) :: k,ds,.panicking [{ v,recovered := false }],kind,r⟩ cs w') :=
 step_lone_go (by rw [stepG_opF ho hw hd]; simp [stepG.apply,hr,Frame.raise])
end ops
theorem st_recover {ops : Array Oper} {i : Nat} {rest : List Nat} {o : Oper} (ho : ops[i]? = some o) (hw : Region.wanted o (yielded ops tmps) = true) {w' : World}
  (hr : (execOp (⟨fn,tmps,.inRegion ops (i :: rest) :: k,ds,.run,kind,none⟩ : Frame).eval o).run P w = .ok .recover w') {v : Value} {cs' : List Frame}
  (ht : (match tryRecover ⟨fn,tmps,.inRegion ops (i :: rest) :: k,ds,.run,kind,none⟩ cs with | some (v,cs) => (v,cs) | none => (.nilIface,cs)) = (v,cs')) :
  step P (lone ⟨fn,tmps,.inRegion ops (i :: rest) :: k,ds,.run,kind,none⟩ cs w) = .next (lone ⟨fn,putA tmps o.dst v,.inRegion ops rest :: k,ds,.run,kind,none⟩ cs' w') := by
 rw [← finish_op ho v]
 refine step_lone_go ?_
 rw [stepG_opF ho hw (.inl rfl)]
 simp only [stepG.apply,Sem.runT_eq,hr,GStep.bare_after,if_true]
 cases hc : tryRecover ⟨fn,tmps,.inRegion ops (i :: rest) :: k,ds,.run,kind,none⟩ cs with
 | none => rw [hc] at ht; cases ht; rfl
 | some x => obtain ⟨a,b⟩ := x; rw [hc] at ht; cases ht; rfl
theorem st_return {F c : Frame} {v : Value} (hm : F.mode = .returning) (hd : F.defers = []) (hk : F.kind = .normal) {f : Func} (hf : P.funcs[F.fn]? = some f) (hr : (results f F.tmps).run P w = .ok v w) :
  step P (lone F (c :: cs) w) = .next (lone (c.finish v) cs w) := step_leave_returned ⟨hm,hd,hk,f,hf,hr⟩
theorem st_panicked {F c : Frame} {chain : List PanicEntry} (hm : F.mode = .panicking chain) (hd : F.defers = []) {f : Func} (hf : P.funcs[F.fn]? = some f) :
  step P (lone F (c :: cs) w) = .next (lone (c.raise chain) cs w) := step_leave_panicked ⟨hm,hd,f,hf⟩
end
end Go.Ev
namespace Go.Ev
open Go
inductive ItemR (σ : Sg) : LItem → Item → Prop
 | code (c : Code) : ItemR σ (.code c) (.code c)
 | inBlock (id : Nat) : ItemR σ (.inBlock id) (.inBlock id)
 | inLoop (c : Code) : ItemR σ (.inLoop c) (.inLoop c)
 | inScope (c : Code) : ItemR σ (.inScope c) (.inScope c)
 | endRangeFunc {l : Nat} {p : Nat × Nat} : σ l = some p → ItemR σ (.endRangeFunc l) (.endRangeFunc p.1)
 | beginRound : ItemR σ .beginRound .beginRound
inductive TodoR (σ : Sg) : List LItem → List Item → Prop
 | nil : TodoR σ [] []
 | cons {x : LItem} {y : Item} {k : List LItem} {k' : List Item} : ItemR σ x y → TodoR σ k k' → TodoR σ (x :: k) (y :: k')
inductive DefsR (σ : Sg) : List LDef → List Deferred → Prop
 | nil : DefsR σ [] []
 | cons {x : LDef} {y : Deferred} {k : List LDef} {k' : List Deferred} : DefR σ x y → DefsR σ k k' → DefsR σ (x :: k) (y :: k')
def entry (v : Value) (b : Bool) : PanicEntry := { v,recovered := b }
def ModeR (σ : Sg) : LMode → FrameMode → Prop
 | .run,m => m = .run
 | .returning,m => m = .returning
 | .panicking v,m => ∃ v',v.re σ = some v' ∧ m = .panicking [entry v' false]
def RoundR (σ : Sg) : Option Nat → Option Nat → Prop
 | none,r => r = none
 | some l,r => ∃ p,σ l = some p ∧ r = some p.1
section
variable {σ σ' : Sg}
theorem ItemR.ext (e : Ext σ σ') {x : LItem} {y : Item} (h : ItemR σ x y) : ItemR σ' x y := by
 cases h <;> first | exact .code _ | exact .inBlock _ | exact .inLoop _ | exact .inScope _ | exact .beginRound | (rename_i h; exact .endRangeFunc (e _ _ h))
theorem TodoR.ext (e : Ext σ σ') {x : List LItem} {y : List Item} (h : TodoR σ x y) : TodoR σ' x y := by
 induction h with
 | nil => exact .nil
 | cons a _ ih => exact .cons (a.ext e) ih
theorem DefR.ext (e : Ext σ σ') {x : LDef} {y : Deferred} (h : DefR σ x y) : DefR σ' x y := by
 cases x with
 | collected b => obtain ⟨p,h1,h2⟩ := h; exact ⟨p,e _ _ h1,h2⟩
 | fn f args => obtain ⟨c,a,h1,h2⟩ := h; exact ⟨c,a,h1,LV.reL_ext e h2⟩
theorem DefsR.ext (e : Ext σ σ') {x : List LDef} {y : List Deferred} (h : DefsR σ x y) : DefsR σ' x y := by
 induction h with
 | nil => exact .nil
 | cons a _ ih => exact .cons (a.ext e) ih
theorem ModeR.ext (e : Ext σ σ') {x : LMode} {y : FrameMode} (h : ModeR σ x y) : ModeR σ' x y := by
 cases x with
 | panicking v => obtain ⟨v',h1,h2⟩ := h; exact ⟨v',LV.re_ext e h1,h2⟩
 | run => exact h
 | returning => exact h
theorem RoundR.ext (e : Ext σ σ') {x y : Option Nat} (h : RoundR σ x y) : RoundR σ' x y := by
 cases x with
 | none => exact h
 | some l => obtain ⟨p,h1,h2⟩ := h; exact ⟨p,e _ _ h1,h2⟩
theorem exitTo_spec {id : Nat} {k : List LItem} {k' : List Item} (h : TodoR σ k k') :
  (exitToL id k = none → exitTo id k' = none) ∧ ∀ k2,exitToL id k = some k2 → ∃ k2',exitTo id k' = some k2' ∧ TodoR σ k2 k2' := by
 induction h with
 | nil => exact ⟨fun _ => rfl,fun k2 h => by simp [exitToL] at h⟩
 | @cons x y k k' a hk ih =>
  cases a <;> simp only [exitToL,exitTo] <;> try exact ih
  rename_i id'
  simp only [beq_dec,cond_eq_ite,decide_eq_true_eq]
  by_cases e : id' = id
  ·simp only [e,if_true,beq_self_eq_true]
   exact ⟨fun h => by simp at h,fun k2 h => by simp at h; subst h; exact ⟨_,rfl,hk⟩⟩
  ·have : (id' == id) = false := by simp [e]
   simp only [e,if_false,this,Bool.false_eq_true]
   exact ih
theorem gotoIn_spec {l : Nat} {k : List LItem} {k' : List Item} (h : TodoR σ k k') :
  (gotoInL l k = none → gotoIn l k' = none) ∧ ∀ k2,gotoInL l k = some k2 → ∃ k2',gotoIn l k' = some k2' ∧ TodoR σ k2 k2' := by
 induction h with
 | nil => exact ⟨fun _ => rfl,fun k2 h => by simp [gotoInL] at h⟩
 | @cons x y k k' a hk ih =>
  cases a <;> simp only [gotoInL,gotoIn] <;> try exact ih
  rename_i body
  cases hf : findLabel body l with
  | none => exact ih
  | some rest => exact ⟨fun h => by simp at h,fun k2 h => by simp at h; subst h; exact ⟨_,rfl,.cons (.code _) (.cons (.inScope _) hk)⟩⟩
end
structure FR (P : Program) (σ : Sg) (fx : Fx) (t : Tr LV) (todo : List LItem) (ds : List LDef) (md : LMode) (F : Frame) : Prop where
 fn : F.fn = fx.fn
 known : ∃ f,P.funcs[fx.fn]? = some f
 size : F.tmps.size = fx.n
 tmps : ∀ i,(getT t i).re σ = some (F.tmps.getD i undef)
 ds : DefsR σ ds F.defers
 mode : ModeR σ md F.mode
 todo : md = .run → TodoR σ todo F.todo
 round : RoundR σ fx.round F.roundOf
def PanR (σ : Sg) : Pan → CallKind → List Frame → Prop
 | .none,kind,cs => kind = .normal ∨ (kind = .deferred ∧ ∃ c rest,cs = c :: rest ∧ c.mode = .returning)
 | .avail v,kind,cs => kind = .deferred ∧ ∃ c rest v',cs = c :: rest ∧ c.mode = .panicking [entry v' false] ∧ v.re σ = some v'
 | .taken,kind,cs => kind = .deferred ∧ ∃ c rest v',cs = c :: rest ∧ c.mode = .panicking [entry v' true]
theorem PanR.ext {σ σ' : Sg} (e : Ext σ σ') {pan : Pan} {kind : CallKind} {cs : List Frame} (h : PanR σ pan kind cs) : PanR σ' pan kind cs := by
 cases pan with
 | none => exact h
 | taken => exact h
 | avail v => obtain ⟨h1,c,rest,v',h2,h3,h4⟩ := h; exact ⟨h1,c,rest,v',h2,h3,LV.re_ext e h4⟩
def CsR (pan pan' : Pan) (cs cs' : List Frame) : Prop :=
 (pan' = pan ∧ cs' = cs) ∨ (pan' = .taken ∧ (∃ u,pan = .avail u) ∧ ∃ c rest v',cs = c :: rest ∧ c.mode = .panicking [entry v' false] ∧ cs' = { c with mode := .panicking [entry v' true] } :: rest)
theorem CsR.refl (pan : Pan) (cs : List Frame) : CsR pan pan cs cs := .inl ⟨rfl,rfl⟩
theorem CsR.trans {a b c : Pan} {x y z : List Frame} (h : CsR a b x y) (k : CsR b c y z) : CsR a c x z := by
 rcases h with ⟨rfl,rfl⟩ | ⟨rfl,ha,c1,rest,v',rfl,h2,rfl⟩
 ·exact k
 ·rcases k with ⟨rfl,rfl⟩ | ⟨_,⟨u,hu⟩,_⟩
  ·exact .inr ⟨rfl,ha,c1,rest,v',rfl,h2,rfl⟩
  ·cases hu
def Leaves (todo : List Item) (j : Option Code) : Prop :=
 (todo = [] ∧ j = none) ∨ (∃ k,todo = .code .ret :: k ∧ j = some .ret) ∨ (∃ id k,todo = .code (.exit id) :: k ∧ exitTo id k = none ∧ j = some (.exit id)) ∨
 (∃ l k,todo = .code (.goto l) :: k ∧ gotoIn l k = none ∧ j = some (.goto l))
def ResOK (P : Program) (σ : Sg) (h : H) (w : World) (F : Frame) (cs : List Frame) (pan : Pan) : Res → Prop
 | .no => True
 | .ret v h' pan' => ∃ σ' w' F' cs' v' f,Goes P σ h w σ' h' w' ∧ Steps P (lone F cs w) (lone F' cs' w') ∧ F'.kind = F.kind ∧ F'.fn = F.fn ∧ F'.mode = .returning ∧ F'.defers = [] ∧
   P.funcs[F'.fn]? = some f ∧ (results f F'.tmps).run P w' = .ok v' w' ∧ v.re σ' = some v' ∧ CsR pan pan' cs cs'
 | .left j h' pan' => ∃ σ' w' F' cs',Goes P σ h w σ' h' w' ∧ Steps P (lone F cs w) (lone F' cs' w') ∧ F'.kind = F.kind ∧ F'.roundOf = F.roundOf ∧ F'.mode = .run ∧ Leaves F'.todo j ∧ CsR pan pan' cs cs'
 | .panicked v h' pan' => ∃ σ' w' F' cs' v' f,Goes P σ h w σ' h' w' ∧ Steps P (lone F cs w) (lone F' cs' w') ∧ F'.kind = F.kind ∧ F'.mode = .panicking [entry v' false] ∧ F'.defers = [] ∧
   P.funcs[F'.fn]? = some f ∧ v.re σ' = some v' ∧ CsR pan pan' cs cs'
def MemoOK (P : Program) (memo : Memo) : Prop := ∀ f args h v,memo f args h = some v → ∀ σ w cs kind args',Sim P σ h w → LV.reL σ args = some (args' : Array Value).toList → PanR σ .none kind cs →
 ResOK P σ h w (Frame.enter P f args' kind) cs .none (.ret (.prim v) h .none)
def Sound (P : Program) (rec : Rec) : Prop := MemoOK P rec.memo ∧ ∀ fx t todo ds mode h pan σ w F cs,Sim P σ h w → FR P σ fx t todo ds mode F → PanR σ pan F.kind cs → ResOK P σ h w F cs pan (rec fx t todo ds mode h pan)
section
variable {P : Program} {σ σ' : Sg} {h h' : H} {w w' : World} {F F1 : Frame} {cs cs1 : List Frame} {pan pan1 : Pan}
theorem ResOK.step (hs : Steps P (lone F cs w) (lone F1 cs1 w')) (g : Goes P σ h w σ' h' w') (hk : F1.kind = F.kind) (hf : F1.fn = F.fn) (hr : F1.roundOf = F.roundOf) (hc : CsR pan pan1 cs cs1) {r : Res}
  (hr' : ResOK P σ' h' w' F1 cs1 pan1 r) : ResOK P σ h w F cs pan r := by
 cases r with
 | no => trivial
 | ret v h2 p2 =>
  obtain ⟨s2,w2,F2,cs2,v2,f,a1,a2,a3,a4,a5,a6,a7,a8,a9,a10⟩ := hr'
  exact ⟨s2,w2,F2,cs2,v2,f,g.trans a1,hs.trans a2,a3.trans hk,a4.trans hf,a5,a6,a7,a8,a9,hc.trans a10⟩
 | left j h2 p2 =>
  obtain ⟨s2,w2,F2,cs2,a1,a2,a3,a4,a5,a6,a7⟩ := hr'
  exact ⟨s2,w2,F2,cs2,g.trans a1,hs.trans a2,a3.trans hk,a4.trans hr,a5,a6,hc.trans a7⟩
 | panicked v h2 p2 =>
  obtain ⟨s2,w2,F2,cs2,v2,f,a1,a2,a3,a4,a5,a6,a7,a8⟩ := hr'
  exact ⟨s2,w2,F2,cs2,v2,f,g.trans a1,hs.trans a2,a3.trans hk,a4,a5,a6,a7,hc.trans a8⟩
theorem ResOK.one (s : Sim P σ h w) (hs : Go.step P (lone F cs w) = .next (lone F1 cs w)) (hk : F1.kind = F.kind) (hf : F1.fn = F.fn) (hr : F1.roundOf = F.roundOf) {r : Res}
  (hr' : ResOK P σ h w F1 cs pan r) : ResOK P σ h w F cs pan r := .step (.one hs) (Goes.refl s) hk hf hr (CsR.refl _ _) hr'
variable {fx : Fx} {t : Tr LV} {todo : List LItem} {ds : List LDef}
theorem FR.ev {mode : LMode} (fr : FR P σ fx t todo ds mode F) (x : Operand) : (ev t x).re σ = some (F.eval x) := by
 cases x with
 | tmp i => exact fr.tmps i
 | const v => rfl
 | global g => rfl
 | func f => rfl
theorem FR.ext {mode : LMode} (fr : FR P σ fx t todo ds mode F) (e : Ext σ σ') : FR P σ' fx t todo ds mode F :=
 ⟨fr.fn,fr.known,fr.size,fun i => LV.re_ext e (fr.tmps i),fr.ds.ext e,fr.mode.ext e,fun h => (fr.todo h).ext e,fr.round.ext e⟩
theorem putT_elim {α : Type} {n : Nat} {d : Option Tmp} {v : LV} {v' : Value} {tmps : Array Value} {k : Tr LV → α} {e : α} {Φ : α → Prop} (hs : tmps.size = n) (ht : ∀ i,(getT t i).re σ = some (tmps.getD i undef)) (hv : v.re σ = some v')
  (h0 : Φ e) (h1 : ∀ t',(∀ i,(getT t' i).re σ = some ((putA tmps d v').getD i undef)) → (putA tmps d v').size = n → Φ (k t')) : Φ (putT t n d v k e) := by
 unfold putT
 cases d with
 | none => exact h1 t ht hs
 | some d =>
  simp only [blt_dec,cond_eq_ite,Bool.and_eq_true,decide_eq_true_eq]
  split
  ·rename_i hc
   rw [fL_eq,Tr.putC_eq]
   refine h1 _ (fun i => ?_) (by simp [putA,hs])
   unfold getT
   rw [Tr.get_put20 _ _ _ (by simp [blt_dec,hc.2])]
   by_cases e : i = d
   ·subst e
    simp only [if_true,putA]
    rw [hv]; simp [hs,hc.1]
   ·rw [if_neg e]
    have := ht i
    unfold getT at this
    rw [this]
    simp [putA,Array.getElem?_setIfInBounds_ne (fun h => e h.symm)]
  ·exact h0
end
end Go.Ev
namespace Go.Ev
open Go
section
variable {P : Program} {σ : Sg} {h : H} {w : World} {F : Frame} {cs : List Frame} {pan : Pan} {fx : Fx} {t : Tr LV} {todo k : List LItem} {ds : List LDef} {rec : Rec}
theorem FR.at (fr : FR P σ fx t todo ds .run F) {k2 : List LItem} {k2' : List Item} (hk : TodoR σ k2 k2') : FR P σ fx t k2 ds .run { F with todo := k2' } :=
 ⟨fr.fn,fr.known,fr.size,fr.tmps,fr.ds,fr.mode,fun _ => hk,fr.round⟩
theorem go1 (hrec : Sound P rec) (s : Sim P σ h w) (fr : FR P σ fx t todo ds .run F) (hp : PanR σ pan F.kind cs) {k2 : List LItem} {k2' : List Item} (hk : TodoR σ k2 k2')
  (hst : step P (lone F cs w) = .next (lone { F with todo := k2' } cs w)) : ResOK P σ h w F cs pan (rec fx t k2 ds .run h pan) :=
 ResOK.one s hst rfl rfl rfl (hrec.2 _ _ _ _ _ _ _ _ _ _ _ s (fr.at hk) hp)
theorem leaveF_ok (hrec : Sound P rec) (s : Sim P σ h w) (fr : FR P σ fx t todo ds .run F) (hp : PanR σ pan F.kind cs) {j : Option Code} (hl : Leaves F.todo j) :
  ResOK P σ h w F cs pan (leaveF rec fx t ds h pan j) := by
 unfold leaveF
 obtain ⟨fn,tmps,todo',ds',mode',kind,r⟩ := F
 obtain rfl : mode' = .run := fr.mode
 cases hround : fx.round with
 | some l => exact ⟨σ,w,_,cs,Goes.refl s,Steps.refl _ _,rfl,rfl,rfl,hl,CsR.refl _ _⟩
 | none =>
  have hr := fr.round
  rw [hround] at hr
  obtain rfl : r = none := hr
  have next : ∀ todo2,FR P σ fx t [] ds .returning ⟨fn,tmps,todo2,ds',.returning,kind,none⟩ := fun todo2 =>
   ⟨fr.fn,fr.known,fr.size,fr.tmps,fr.ds,rfl,(fun h => by cases h),fr.round⟩
  rcases hl with ⟨rfl,rfl⟩ | ⟨k,rfl,rfl⟩ | ⟨id,k,rfl,he,rfl⟩ | ⟨l,k,rfl,he,rfl⟩
  ·exact ResOK.one s st_end rfl rfl rfl (hrec.2 _ _ _ _ _ _ _ _ _ _ _ s (next _) hp)
  ·exact ResOK.one s st_ret rfl rfl rfl (hrec.2 _ _ _ _ _ _ _ _ _ _ _ s (next _) hp)
  ·trivial
  ·trivial
def resSem (tmps : Array Value) : ResultVar → Sem Value
 | .tmp t => pure (tmps.getD t undef)
 | .cell a t => do loadVar t (← asAddr (tmps.getD a undef))
theorem results_eq (f : Func) (tmps : Array Value) : results f tmps = (do
  let vs ← f.results.mapM (resSem tmps)
  pure (if h : vs.size = 1 then vs[0] else .tuple vs)) := by
 unfold results
 congr 1
theorem resultsL_ok (s : Sim P σ h w) {tmps : Array Value} (ht : ∀ i,(getT t i).re σ = some (tmps.getD i undef)) : ∀ (rs : List ResultVar) {vs : List LV},resultsL P h t rs = some vs →
  ∃ vs',LV.reL σ vs = some vs' ∧ (rs.mapM (resSem tmps)).run P w = .ok vs' w := by
 intro rs
 induction rs with
 | nil => intro vs h; simp [resultsL] at h; subst h; exact ⟨[],rfl,by simp⟩
 | cons x rs ih =>
  intro vs h
  cases x with
  | tmp i =>
   simp only [resultsL] at h
   split at h
   ·rename_i r hr
    cases h
    obtain ⟨vs',h1,h2⟩ := ih hr
    refine ⟨_,reL_cons.2 ⟨_,_,ht i,h1,rfl⟩,?_⟩
    rw [List.mapM_cons]
    simp only [resSem,Sem.run_bind,Sem.run_pure,Result.andThen_ok,h2]
   ·cases h
  | cell a ty =>
   simp only [resultsL] at h
   split at h
   ·rename_i b off hg
    have ha := ht a
    rw [hg] at ha
    simp only [LV.re] at ha
    split at ha
    ·rename_i p hp
     simp only [Option.some.injEq] at ha
     split at h
     ·rename_i v hv
      split at h
      ·rename_i r hr
       cases h
       obtain ⟨v',e1,e2⟩ := load_run s hv hp
       obtain ⟨vs',h1,h2⟩ := ih hr
       refine ⟨_,reL_cons.2 ⟨_,_,e1,h1,rfl⟩,?_⟩
       rw [List.mapM_cons]
       simp only [resSem,Sem.run_bind,← ha,asAddr,Sem.run_pure,Result.andThen_ok,e2,h2]
      ·cases h
     ·cases h
    ·cases ha
   ·cases h
theorem results_ok (s : Sim P σ h w) {tmps : Array Value} (ht : ∀ i,(getT t i).re σ = some (tmps.getD i undef)) {f : Func} {vs : List LV} (hv : resultsL P h t f.results.toList = some vs) :
  ∃ v',(tupL vs).re σ = some v' ∧ (results f tmps).run P w = .ok v' w := by
 obtain ⟨vs',h1,h2⟩ := resultsL_ok s ht _ hv
 have hl := reL_length h1
 have hrun : (results f tmps).run P w = .ok (if h : vs'.toArray.size = 1 then vs'.toArray[0] else .tuple vs'.toArray) w := by
  rw [results_eq,Sem.run_bind,Array.mapM_eq_mapM_toList,Sem.run_map,h2]
  rfl
 rw [hrun]
 cases vs with
 | nil => simp [LV.reL] at h1; subst h1; exact ⟨.tuple #[],by simp [tupL,LV.re,LV.reL],by simp⟩
 | cons a l =>
  obtain ⟨x,y,e1,e2,rfl⟩ := reL_cons.1 h1
  cases l with
  | nil => simp [LV.reL] at e2; subst e2; exact ⟨x,e1,by simp⟩
  | cons b l =>
   obtain ⟨x2,y2,e3,e4,rfl⟩ := reL_cons.1 e2
   exact ⟨.tuple (x :: x2 :: y2).toArray,by simp only [tupL,LV.re,h1],by simp⟩
theorem modeOf_R {v : Option LV} {m : FrameMode} (h : ModeR σ (modeOf v) m) : (v = none ∧ m = .returning) ∨ ∃ u u',v = some u ∧ u.re σ = some u' ∧ m = .panicking [entry u' false] := by
 cases v with
 | none => exact .inl ⟨rfl,h⟩
 | some u => obtain ⟨u',h1,h2⟩ := h; exact .inr ⟨u,u',rfl,h1,h2⟩
theorem endF_ok (s : Sim P σ h w) {v : Option LV} (fr : FR P σ fx t todo [] (modeOf v) F) : ResOK P σ h w F cs pan (endF P fx t h pan v) := by
 have hds : F.defers = [] := by have := fr.ds; cases hd : F.defers with
  | nil => rfl
  | cons => rw [hd] at this; cases this
 obtain ⟨f0,hf0⟩ := fr.known
 unfold endF
 cases v with
 | some u =>
  obtain ⟨u',h1,h2⟩ := fr.mode
  exact ⟨σ,w,F,cs,u',f0,Goes.refl s,Steps.refl _ _,rfl,h2,hds,by rw [fr.fn]; exact hf0,h1,CsR.refl _ _⟩
 | none =>
  dsimp only
  rw [hf0]
  dsimp only
  cases hr : resultsL P h t f0.results.toList with
  | none => exact True.intro
  | some vs =>
   dsimp only
   rw [forceL_eq]
   obtain ⟨v',e1,e2⟩ := results_ok s fr.tmps hr
   exact ⟨σ,w,F,cs,v',f0,Goes.refl s,Steps.refl _ _,rfl,rfl,fr.mode,hds,by rw [fr.fn]; exact hf0,e2,e1,CsR.refl _ _⟩
theorem st_take {β : Nat} {dl : List Deferred} {fn : FuncId} {tmps : Array Value} {td : List Item} {m : FrameMode} (hm : m ≠ .run) {kind : CallKind} {r : Option Nat} {a : Array Value} (hb : w.heap[β]? = some (.deferred (some []))) :
  step P (lone ⟨fn,tmps,td,{ target := .collected β,args := a } :: dl,m,kind,r⟩ cs w) = .next (lone ⟨fn,tmps,td,dl,m,kind,r⟩ cs { w with heap := w.heap.setIfInBounds β (.deferred none) }) := by
 refine step_lone_go ?_
 have hrun : (Instr.takeDeferred β).run P w = .ok [] { w with heap := w.heap.setIfInBounds β (.deferred none) } := by
  simp [Instr.takeDeferred,getObj,setObj,Sem.run,hb]
 cases m with
 | run => exact absurd rfl hm
 | returning => simp [stepG,unwind,hrun]
 | panicking c => simp [stepG,unwind,hrun]
theorem takeF_ok (hrec : Sound P rec) (s : Sim P σ h w) {v : Option LV} {b : Nat} (fr : FR P σ fx t todo (.collected b :: ds) (modeOf v) F) (hp : PanR σ pan F.kind cs) :
  ResOK P σ h w F cs pan (takeF rec fx t ds h pan v b) := by
 unfold takeF
 split
 ·rename_i hb
  obtain ⟨fn,tmps,todo',ds',mode',kind,r⟩ := F
  have hd := fr.ds
  cases hd with
  | cons hx hk =>
   rename_i y dl
   obtain ⟨p,hp1,rfl⟩ := hx
   obtain ⟨q,x,j1,j2,j3⟩ := s.obj b _ hb
   rw [hp1] at j1; cases j1
   have j3 : x = .deferred (some []) := j3
   subst j3
   have hm : mode' ≠ .run := by
    rcases modeOf_R fr.mode with ⟨_,h⟩ | ⟨u,u',_,_,h⟩ <;> (have h : mode' = _ := h; rw [h]; simp)
   refine set_elim (Φ := ResOK P σ h w _ cs pan) trivial fun hlt => ?_
   have g := goes_set s hb rfl rfl hp1 hlt (o1 := .deferred true) (x1 := .deferred none) (w' := { w with heap := w.heap.setIfInBounds p.1 (.deferred none) }) rfl rfl rfl rfl rfl
   exact ResOK.step (.one (st_take hm j2)) g rfl rfl rfl (CsR.refl _ _) (hrec.2 _ _ _ _ _ _ _ _ _ _ _ g.sim ⟨fr.fn,fr.known,fr.size,fr.tmps,hk,fr.mode,(fun e => by cases v <;> cases e),fr.round⟩ hp)
 ·trivial
theorem fillT_spec {args : List LV} : ∀ {args' pre : List Value} {t : Tr LV} {α : Type} {k : Tr LV → Nat → α},LV.reL σ args = some args' →
  (∀ i,t.get i = none ∨ i < pre.length) → (∀ i,i < pre.length → (getT t i).re σ = pre[i]?) → pre.length + args.length ≤ 1000000 →
  ∃ t',fillT args pre.length t k = k t' (pre.length + args.length) ∧ (∀ i,t'.get i = none ∨ i < (pre ++ args').length) ∧ (∀ i,i < (pre ++ args').length → (getT t' i).re σ = (pre ++ args')[i]?) := by
 induction args with
 | nil => intro args' pre t α k h h1 h2 _; simp [LV.reL] at h; subst h; exact ⟨t,rfl,by simpa using h1,by simpa using h2⟩
 | cons v vs ih =>
  intro args' pre t α k h h1 h2 hsz
  obtain ⟨x,y,e1,e2,rfl⟩ := reL_cons.1 h
  simp only [List.length_cons] at hsz
  unfold fillT
  rw [fL_eq,Tr.putC_eq]
  have hget := Tr.get_put20 t pre.length (some v) (by simp [blt_dec]; omega)
  have := ih (args' := y) (pre := pre ++ [x]) (t := Tr.put 20 t pre.length (some v)) (k := k) e2 (fun i => by
   rw [hget]
   split
   ·rename_i e; right; simp [e]
   ·rcases h1 i with h | h
    ·exact .inl h
    ·right; simp; omega) (fun i hi => by
   unfold getT
   rw [hget]
   simp only [List.length_append,List.length_singleton] at hi
   by_cases e : i = pre.length
   ·subst e; simp [e1]
   ·rw [if_neg e]
    have := h2 i (by omega)
    unfold getT at this
    rw [this,List.getElem?_append_left (by omega)]) (by simp; omega)
  obtain ⟨t',a1,a2,a3⟩ := this
  refine ⟨t',?_,by simpa using a2,by simpa using a3⟩
  simp only [List.length_append,List.length_singleton] at a1
  rw [a1]
  congr 1
  simp; omega
end
end Go.Ev
namespace Go.Ev
open Go
section
variable {P : Program} {σ : Sg} {h : H} {w : World} {F : Frame} {cs : List Frame} {pan : Pan} {fx : Fx} {t : Tr LV} {todo k : List LItem} {ds : List LDef} {rec : Rec}
theorem fillT_len {α : Type} {args : List LV} : ∀ {i : Nat} {t : Tr LV} {k : Tr LV → Nat → α},∃ t',fillT args i t k = k t' (i + args.length) := by
 induction args with
 | nil => intro i t k; exact ⟨t,rfl⟩
 | cons v vs ih =>
  intro i t k
  unfold fillT
  rw [fL_eq,Tr.putC_eq]
  obtain ⟨t',h⟩ := ih (i:=Nat.succ i) (t := Tr.put 20 t i (some v)) (k := k)
  exact ⟨t',by rw [h]; congr 1; simp; omega⟩
theorem startF_ok (hrec : Sound P rec) (s : Sim P σ h w) {f : FuncId} {fn : Func} {c : Code} (hf : P.funcs[f]? = some fn) (hb : fn.body = some c) {args : List LV} {args' : Array Value} (ha : LV.reL σ args = some args'.toList) {kind : CallKind} (hp : PanR σ pan kind cs) :
  ResOK P σ h w (Frame.enter P f args' kind) cs pan (startF rec f fn.ntmps c args h pan) := by
 unfold startF
 have hl := reL_length ha
 by_cases hsz : args.length ≤ 1000000
 ·obtain ⟨t',h1,h2,h3⟩ := fillT_spec (pre := []) (t := .nil) (k := fun t i => bif Nat.ble i 1000 then fN (i + (fn.ntmps - i)) fun n => rec ⟨f,n,none⟩ t [.code c] [] .run h pan else .no) ha (fun i => .inl rfl) (fun i hi => by simp at hi) (by simpa using hsz)
  simp only [List.length_nil] at h1
  rw [h1]
  simp only [ble_dec,cond_eq_ite,decide_eq_true_eq,fN_eq,Nat.zero_add]
  split
  ·refine hrec.2 _ _ _ _ _ _ _ σ w _ cs s ⟨rfl,⟨fn,hf⟩,?_,fun i => ?_,.nil,rfl,fun _ => ?_,rfl⟩ hp
   ·simp [Frame.enter,hf]; simp at hl; omega
   ·simp only [List.nil_append] at h2 h3
    by_cases hi : i < args'.toList.length
    ·rw [h3 i hi]
     have hi' : i < args'.size := by simpa using hi
     simp [Frame.enter,hf,Array.getElem?_append,hi']
    ·have hg : t'.get i = none := (h2 i).resolve_right hi
     have hi' : ¬ i < args'.size := by simpa using hi
     simp only [getT,hg,undefL,LV.re,Frame.enter,hf,Option.map_some,Option.getD_some]
     simp only [Array.getD_eq_getD_getElem?,Array.getElem?_append,if_neg hi',Array.getElem?_replicate]
     split <;> rfl
   ·simp only [Frame.enter,hf,Option.bind_some,hb,Option.getD_some]
    exact .cons (.code c) .nil
  ·trivial
 ·obtain ⟨t',h1⟩ := fillT_len (args := args) (i:=0) (t := .nil) (k := fun t i => bif Nat.ble i 1000 then fN (i + (fn.ntmps - i)) fun n => rec ⟨f,n,none⟩ t [.code c] [] .run h pan else .no)
  rw [h1]
  have : Nat.ble (0 + args.length) 1000 = false := by simp [ble_dec]; omega
  rw [this]
  trivial
theorem callF_ok (hrec : Sound P rec) (s : Sim P σ h w) {f : FuncId} {args : List LV} {args' : Array Value} (ha : LV.reL σ args = some args'.toList) {kind : CallKind} (hp : PanR σ pan kind cs) :
  ResOK P σ h w (Frame.enter P f args' kind) cs pan (callF P rec f args h pan) := by
 unfold callF
 split
 ·rename_i v hm
  unfold memoOf at hm
  split at hm
  ·exact hrec.1 f args h v hm σ w cs kind args' s ha hp
  ·cases hm
 ·unfold callG
  split
  ·rename_i fn hf
   split
   ·rename_i c hb; exact startF_ok hrec s hf hb ha hp
   ·trivial
  ·trivial
def KOK (P : Program) (σ0 : Sg) (fx : Fx) (fn : FuncId) (kind : CallKind) (r : Option Nat) (td : List Item) (K : KK) : Prop :=
 ∀ σ h w t tmps ds ds' pan cs,Ext σ0 σ → Sim P σ h w → (∀ i,(getT t i).re σ = some ((tmps : Array Value).getD i undef)) → tmps.size = fx.n → DefsR σ ds ds' → PanR σ pan kind cs →
  ResOK P σ h w ⟨fn,tmps,td,ds',.run,kind,r⟩ cs pan (K t h pan ds)
theorem callers_same {cs cs' : List Frame} {c : Frame} {p2 : Pan} (_ : c.mode = .run) (h : CsR .none p2 (c :: cs) cs') : cs' = c :: cs := by
 rcases h with ⟨_,rfl⟩ | ⟨_,⟨u,hu⟩,_⟩
 ·rfl
 ·cases hu
structure AtOp (P : Program) (σ : Sg) (fx : Fx) (t : Tr LV) (ds : List LDef) (fn : FuncId) (tmps : Array Value) (ds' : List Deferred) (kind : CallKind) (r : Option Nat) (pan : Pan) (cs : List Frame) : Prop where
 fn : fn = fx.fn
 known : ∃ f,P.funcs[fx.fn]? = some f
 size : tmps.size = fx.n
 tmps : ∀ i,(getT t i).re σ = some (tmps.getD i undef)
 ds : DefsR σ ds ds'
 round : RoundR σ fx.round r
 pan : PanR σ pan kind cs
section ops
variable {fn : FuncId} {tmps : Array Value} {ds' : List Deferred} {kind : CallKind} {r : Option Nat} {ops : Array Oper} {i : Nat} {rest : List Nat} {k' : List Item} {o : Oper} {K : KK}
theorem AtOp.ext {σ' : Sg} (a : AtOp P σ fx t ds fn tmps ds' kind r pan cs) (e : Ext σ σ') : AtOp P σ' fx t ds fn tmps ds' kind r pan cs :=
 ⟨a.fn,a.known,a.size,fun i => LV.re_ext e (a.tmps i),a.ds.ext e,a.round.ext e,a.pan.ext e⟩
theorem AtOp.panicking (a : AtOp P σ fx t ds fn tmps ds' kind r pan cs) {v : LV} {v' : Value} (hv : v.re σ = some v') (td : List Item) :
  FR P σ fx t [] ds (.panicking v) ⟨fn,tmps,td,ds',.panicking [entry v' false],kind,r⟩ :=
 ⟨a.fn,a.known,a.size,a.tmps,a.ds,⟨v',hv,rfl⟩,(fun e => by cases e),a.round⟩
theorem put_ok {σ0 : Sg} (hK : KOK P σ0 fx fn kind r (.inRegion ops rest :: k') K) (e : Ext σ0 σ) (s : Sim P σ h w) (a : AtOp P σ fx t ds fn tmps ds' kind r pan cs) {v : LV} {v' : Value} (hv : v.re σ = some v') {dst : Option Tmp} :
  ResOK P σ h w ⟨fn,putA tmps dst v',.inRegion ops rest :: k',ds',.run,kind,r⟩ cs pan (putT t fx.n dst v (fun t => K t h pan ds) .no) :=
 putT_elim (Φ := ResOK P σ h w _ cs pan) a.size a.tmps hv trivial fun t' ht hs => hK σ h w t' _ ds ds' pan cs e s ht hs a.ds a.pan
theorem backF_ok (ho : ops[i]? = some o) (hw : Region.wanted o (yielded ops tmps) = true) (hd : r = none ∨ ∀ c,o.op ≠ .defer c) (hrec : Sound P rec) {σ0 : Sg} (hK : KOK P σ0 fx fn kind r (.inRegion ops rest :: k') K) (e : Ext σ0 σ) (s : Sim P σ h w) (a : AtOp P σ fx t ds fn tmps ds' kind r pan cs)
  {f : FuncId} {args' : Array Value} (hr : (execOp (⟨fn,tmps,.inRegion ops (i :: rest) :: k',ds',.run,kind,r⟩ : Frame).eval o).run P w = .ok (.enter f args') w) {args : List LV} (ha : LV.reL σ args = some args'.toList) :
  ResOK P σ h w ⟨fn,tmps,.inRegion ops (i :: rest) :: k',ds',.run,kind,r⟩ cs pan (backF rec fx o.dst t pan ds K (callF P rec f args h .none)) := by
 have hst := st_enter (P := P) (fn := fn) (k := k') (ds := ds') (kind := kind) (cs := cs) ho hw hd hr
 have hcall := callF_ok (pan := .none) (cs := ⟨fn,tmps,.inRegion ops (i :: rest) :: k',ds',.run,kind,r⟩ :: cs) (kind := .normal) hrec s (f := f) ha (.inl rfl)
 cases hres : callF P rec f args h .none with
 | no => trivial
 | left => trivial
 | ret v h2 p2 =>
  rw [hres] at hcall
  obtain ⟨σ',w2,F2,cs2,v',f2,g,st,q1,q2,q3,q4,q5,q6,q7,q8⟩ := hcall
  have hcs := callers_same rfl q8
  subst hcs
  have hret := st_return (c := ⟨fn,tmps,.inRegion ops (i :: rest) :: k',ds',.run,kind,r⟩) (cs := cs) q3 q4 (by rw [q1]; rfl) q5 q6
  rw [finish_op ho] at hret
  exact ResOK.step ((Steps.one hst).trans (st.trans (.one hret))) g rfl rfl rfl (CsR.refl _ _) (put_ok hK (e.trans g.ext) g.sim (a.ext g.ext) q7)
 | panicked v h2 p2 =>
  rw [hres] at hcall
  obtain ⟨σ',w2,F2,cs2,v',f2,g,st,q1,q3,q4,q5,q7,q8⟩ := hcall
  have hcs := callers_same rfl q8
  subst hcs
  have hret := st_panicked (w := w2) (c := ⟨fn,tmps,.inRegion ops (i :: rest) :: k',ds',.run,kind,r⟩) (cs := cs) q3 q4 q5
  exact ResOK.step ((Steps.one hst).trans (st.trans (.one hret))) g rfl rfl rfl (CsR.refl _ _) (hrec.2 _ _ _ _ _ _ _ _ _ _ _ g.sim ((a.ext g.ext).panicking q7 _) (a.ext g.ext).pan)
end ops
end
end Go.Ev
namespace Go.Ev
open Go
section
variable {P : Program} {σ : Sg} {h : H} {w : World} {F : Frame} {cs : List Frame} {pan : Pan} {fx : Fx} {t : Tr LV} {todo k : List LItem} {ds : List LDef} {rec : Rec}
theorem putsT_elim {α : Type} {n : Nat} {k : Tr LV → α} {e : α} {Φ : α → Prop} (h0 : Φ e) : ∀ {params : List Tmp} {args : List LV} {args' : List Value} {t : Tr LV} {tmps : Array Value},
  tmps.size = n → (∀ i,(getT t i).re σ = some (tmps.getD i undef)) → LV.reL σ args = some args' →
  (∀ t',params.length = args.length → (∀ i,(getT t' i).re σ = some (((params.zip args').foldl (fun tmps (p : Tmp × Value) => tmps.setIfInBounds p.1 p.2) tmps).getD i undef)) →
   ((params.zip args').foldl (fun tmps (p : Tmp × Value) => tmps.setIfInBounds p.1 p.2) tmps).size = n → Φ (k t')) → Φ (putsT params args t n k e) := by
 intro params
 induction params with
 | nil =>
  intro args args' t tmps hs ht ha h1
  cases args with
  | nil => simp [LV.reL] at ha; subst ha; exact h1 t rfl ht hs
  | cons v vs => exact h0
 | cons d params ih =>
  intro args args' t tmps hs ht ha h1
  cases args with
  | nil => exact h0
  | cons v vs =>
   obtain ⟨x,y,e1,e2,rfl⟩ := reL_cons.1 ha
   exact putT_elim (Φ := Φ) (d := some d) hs ht e1 h0 fun t' ht' hs' => ih (tmps := tmps.setIfInBounds d x) hs' ht' e2 fun t'' hl ht'' hs'' => h1 t'' (by simp [hl]) ht'' hs''
theorem st_leave {F c : Frame} {l : Nat} {j : Option Code} {v : Value} {w' : World} (hm : F.mode = .run) (hk : F.kind = .normal) (hr : F.roundOf = some l) (hl : Leaves F.todo j) (he : (Instr.endRound l j).run P w = .ok v w') :
  step P (lone F (c :: cs) w) = .next (lone (c.finish v) cs w') := by
 obtain ⟨fn,tmps,td,ds',m,kind,r⟩ := F
 obtain rfl : m = .run := hm
 obtain rfl : kind = .normal := hk
 obtain rfl : r = some l := hr
 have hl : Leaves td j := hl
 refine step_lone_go ?_
 rcases hl with ⟨rfl,rfl⟩ | ⟨k,rfl,rfl⟩ | ⟨id,k,rfl,hn,rfl⟩ | ⟨g,k,rfl,hn,rfl⟩
 ·simp [stepG,stepG.exec,he,doReturn]
 ·simp [stepG,stepG.exec,he,doReturn]
 ·simp [stepG,stepG.exec,he,doReturn,hn]
 ·simp [stepG,stepG.exec,he,doReturn,hn]
theorem loop_obj (s : Sim P σ h w) {l : Nat} {p : Nat × Nat} {st : LoopState} {pending : Option Code} {fn : FuncId} {t : Tr LV} {n : Nat} {params : List Tmp} {assign body : Code} {r : Nat}
  (hb : h.m.get l = some (.loop st pending fn t n params assign body r)) (hp : σ l = some p) :
  ∃ tmps β κ,w.heap[p.1]? = some (.loop { state := st,pending,fn,tmps,params := params.toArray,assign,body,defers := β }) ∧ tmps.size = n ∧ (∀ i,(getT t i).re σ = some (tmps.getD i undef)) ∧ σ r = some (β,κ) ∧ (∃ f,P.funcs[fn]? = some f) := by
 obtain ⟨q,x,j1,j2,j3⟩ := s.obj l _ hb
 rw [hp] at j1; cases j1
 obtain ⟨tmps,β,rfl,h2,h3,⟨κ,h4⟩,h5⟩ := j3
 exact ⟨tmps,β,κ,j2,h2,h3,h4,Option.isSome_iff_exists.1 h5⟩
section ops
variable {fn : FuncId} {tmps : Array Value} {ds' : List Deferred} {kind : CallKind} {r : Option Nat} {ops : Array Oper} {i : Nat} {rest : List Nat} {k' : List Item} {o : Oper} {K : KK}
theorem roundF_ok (ho : ops[i]? = some o) (hw : Region.wanted o (yielded ops tmps) = true) (hd : r = none ∨ ∀ c,o.op ≠ .defer c) (hrec : Sound P rec) {σ0 : Sg} (hK : KOK P σ0 fx fn kind r (.inRegion ops rest :: k') K) (e : Ext σ0 σ) (s : Sim P σ h w) (a : AtOp P σ fx t ds fn tmps ds' kind r pan cs)
  {l : Nat} {p : Nat × Nat} (hp : σ l = some p) {args' : Array Value} (hr : (execOp (⟨fn,tmps,.inRegion ops (i :: rest) :: k',ds',.run,kind,r⟩ : Frame).eval o).run P w = (Instr.yield p.1 args').run P w) {args : List LV} (ha : LV.reL σ args = some args'.toList) :
  ResOK P σ h w ⟨fn,tmps,.inRegion ops (i :: rest) :: k',ds',.run,kind,r⟩ cs pan (roundF rec fx o.dst t h pan ds K l args) := by
 unfold roundF
 split
 ·rename_i st pending fn2 tmps2 m params assign body dr hb
  obtain ⟨tmps2',β,κ,hb',hsz,htm,hdr,f0,hf0⟩ := loop_obj s hb hp
  refine putsT_elim (Φ := ResOK P σ h w _ cs pan) (by trivial) hsz htm ha fun t' hlen ht' hs' => ?_
  have hal := reL_length ha
  have hargs : ¬ (args'.size ≠ params.toArray.size) := by simp at hal ⊢; omega
  have hyield : (Instr.yield p.1 args').run P w = .ok (.round p.1 fn2 ((params.zip args'.toList).foldl (fun tmps (p : Tmp × Value) => tmps.setIfInBounds p.1 p.2) tmps2') assign body) w := by
   have hz : params.toArray.zip args' = (params.zip args'.toList).toArray := by
    apply Array.ext'; simp
   simp only [Instr.yield,Instr.getLoop,getObj,Sem.run_bind,Sem.run,hb',Result.andThen_ok,Sem.run_pure,if_neg hargs,hz]
   simp
  have hst := st_round (P := P) (fn := fn) (k := k') (ds := ds') (kind := kind) (cs := cs) ho hw hd (hr.trans hyield)
  generalize hT : (params.zip args'.toList).foldl (fun tmps (p : Tmp × Value) => tmps.setIfInBounds p.1 p.2) tmps2' = T at *
  have hfr : FR P σ ⟨fn2,m,some l⟩ t' [.code assign,.beginRound,.code body] [] .run (Frame.round p.1 fn2 T assign body .normal) :=
   ⟨rfl,⟨f0,hf0⟩,hs',ht',.nil,rfl,fun _ => .cons (.code _) (.cons .beginRound (.cons (.code _) .nil)),⟨p,hp,rfl⟩⟩
  have hcall := hrec.2 _ _ _ _ _ _ .none σ w _ (⟨fn,tmps,.inRegion ops (i :: rest) :: k',ds',.run,kind,r⟩ :: cs) s hfr (.inl rfl)
  cases hres : rec ⟨fn2,m,some l⟩ t' [.code assign,.beginRound,.code body] [] .run h .none with
  | no => trivial
  | ret => trivial
  | left j h2 p2 =>
   rw [hres] at hcall
   obtain ⟨σ',w2,F2,cs2,g,st,q1,q2,q3,q4,q8⟩ := hcall
   have hcs := callers_same rfl q8
   subst hcs
   show ResOK P σ h w _ cs pan (roundSet fx o.dst t pan ds K l j h2)
   unfold roundSet
   split
   ·rename_i st3 pend3 fn3 tmps3 m3 params3 assign3 body3 dr3 hb3
    obtain ⟨tmps3',β3,κ3,hb3',hsz3,htm3,hdr3,f3,hf3⟩ := loop_obj g.sim hb3 (g.ext _ _ hp)
    refine set_elim (Φ := ResOK P σ h w _ cs pan) (by trivial) fun hlt => ?_
    have hcond : (bif jumpB j then LoopState.ready else LoopState.done) = (if j.isNone then LoopState.ready else LoopState.done) := by cases j <;> rfl
    have hjb : jumpB j = j.isNone := by cases j <;> rfl
    have hend : (Instr.endRound p.1 j).run P w2 = .ok (.bool (jumpB j)) { w2 with heap := w2.heap.setIfInBounds p.1 (.loop { state := (bif jumpB j then .ready else .done),pending := j,fn := fn3,tmps := tmps3',params := params3.toArray,assign := assign3,body := body3,defers := β3 }) } := by
     rw [hcond,hjb]
     simp [Instr.endRound,Instr.getLoop,getObj,setObj,Sem.run,hb3']
    have hlv := st_leave (c := ⟨fn,tmps,.inRegion ops (i :: rest) :: k',ds',.run,kind,r⟩) (cs := cs) q3 q1 q2 q4 hend
    rw [finish_op ho] at hlv
    have g2 := goes_set g.sim hb3 rfl rfl (g.ext _ _ hp) hlt (o1 := .loop (bif jumpB j then .ready else .done) j fn3 tmps3 m3 params3 assign3 body3 dr3)
     (x1 := .loop { state := (bif jumpB j then .ready else .done),pending := j,fn := fn3,tmps := tmps3',params := params3.toArray,assign := assign3,body := body3,defers := β3 })
     ⟨tmps3',β3,rfl,hsz3,htm3,⟨κ3,hdr3⟩,by simp [hf3]⟩ (w' := { w2 with heap := w2.heap.setIfInBounds p.1 (.loop { state := (bif jumpB j then .ready else .done),pending := j,fn := fn3,tmps := tmps3',params := params3.toArray,assign := assign3,body := body3,defers := β3 }) }) rfl rfl rfl rfl
    have g3 := g.trans g2
    exact ResOK.step ((Steps.one hst).trans (st.trans (.one hlv))) g3 rfl rfl rfl (CsR.refl _ _) (put_ok hK (e.trans g3.ext) g3.sim (a.ext g3.ext) rfl)
   ·trivial
  | panicked v h2 p2 =>
   rw [hres] at hcall
   obtain ⟨σ',w2,F2,cs2,v',f2,g,st,q1,q3,q4,q5,q7,q8⟩ := hcall
   have hcs := callers_same rfl q8
   subst hcs
   have hret := st_panicked (w := w2) (c := ⟨fn,tmps,.inRegion ops (i :: rest) :: k',ds',.run,kind,r⟩) (cs := cs) q3 q4 q5
   exact ResOK.step ((Steps.one hst).trans (st.trans (.one hret))) g rfl rfl rfl (CsR.refl _ _) (hrec.2 _ _ _ _ _ _ _ _ _ _ _ g.sim ((a.ext g.ext).panicking q7 _) (a.ext g.ext).pan)
 ·trivial
theorem recoverF_ok (ho : ops[i]? = some o) (hw : Region.wanted o (yielded ops tmps) = true) {σ0 : Sg} (hK : KOK P σ0 fx fn kind r (.inRegion ops rest :: k') K) (e : Ext σ0 σ) (s : Sim P σ h w) (a : AtOp P σ fx t ds fn tmps ds' kind r pan cs)
  (hr : (execOp (⟨fn,tmps,.inRegion ops (i :: rest) :: k',ds',.run,kind,r⟩ : Frame).eval o).run P w = .ok .recover w) :
  ResOK P σ h w ⟨fn,tmps,.inRegion ops (i :: rest) :: k',ds',.run,kind,r⟩ cs pan (recoverF fx o.dst t h pan ds K) := by
 unfold recoverF
 cases hround : fx.round with
 | some l => trivial
 | none =>
  have hrr := a.round
  rw [hround] at hrr
  obtain rfl : r = none := hrr
  dsimp only
  cases pan with
  | avail v =>
   dsimp only
   obtain ⟨rfl,c,rest2,v',rfl,hm,hv⟩ := a.pan
   have hst := st_recover (P := P) (fn := fn) (k := k') (ds := ds') (kind := .deferred) (cs := c :: rest2) ho hw hr (v:=v') (cs' := { c with mode := .panicking [entry v' true] } :: rest2) (by simp [tryRecover,hm,entry])
   refine ResOK.step (.one hst) (Goes.refl s) rfl rfl rfl (.inr ⟨rfl,⟨v,rfl⟩,c,rest2,v',rfl,hm,rfl⟩) ?_
   exact put_ok (pan := .taken) hK e s ⟨a.fn,a.known,a.size,a.tmps,a.ds,a.round,⟨rfl,_,_,v',rfl,rfl⟩⟩ hv
  | none =>
   dsimp only
   have hst := st_recover (P := P) (fn := fn) (k := k') (ds := ds') (kind := kind) (cs := cs) ho hw hr (v:=.nilIface) (cs' := cs) (by
    rcases a.pan with rfl | ⟨rfl,c,rest2,rfl,hm⟩
    ·simp [tryRecover]
    ·simp [tryRecover,hm])
   exact ResOK.step (.one hst) (Goes.refl s) rfl rfl rfl (CsR.refl _ _) (put_ok hK e s a rfl)
  | taken =>
   dsimp only
   obtain ⟨rfl,c,rest2,v',rfl,hm⟩ := a.pan
   have hst := st_recover (P := P) (fn := fn) (k := k') (ds := ds') (kind := .deferred) (cs := c :: rest2) ho hw hr (v:=.nilIface) (cs' := c :: rest2) (by simp [tryRecover,hm,entry])
   exact ResOK.step (.one hst) (Goes.refl s) rfl rfl rfl (CsR.refl _ _) (put_ok hK e s a rfl)
theorem outF_ok (ho : ops[i]? = some o) (hw : Region.wanted o (yielded ops tmps) = true) (hrec : Sound P rec) {σ0 : Sg} (hK : KOK P σ0 fx fn kind r (.inRegion ops rest :: k') K) (e : Ext σ0 σ) (s : Sim P σ h w) (a : AtOp P σ fx t ds fn tmps ds' kind r pan cs) :
  ResOK P σ h w ⟨fn,tmps,.inRegion ops (i :: rest) :: k',ds',.run,kind,r⟩ cs pan (outF P rec fx o.dst t h pan ds K (lop P t h o.op o.type)) := by
 have hev : ∀ x,(ev t x).re σ = some ((⟨fn,tmps,.inRegion ops (i :: rest) :: k',ds',.run,kind,r⟩ : Frame).eval x) := fun x => by
  cases x with
  | tmp i => exact a.tmps i
  | const v => rfl
  | global g => rfl
  | func f => rfl
 have hop := lop_ok hev s o
 have nodef : ∀ {n : Next} {w' : World},(execOp (⟨fn,tmps,.inRegion ops (i :: rest) :: k',ds',.run,kind,r⟩ : Frame).eval o).run P w = .ok n w' → (∀ d,n ≠ .defer d) → r = none ∨ ∀ c,o.op ≠ .defer c := by
  intro n w' hn hne
  right
  intro c hc
  obtain ⟨dst,op,type,pos,af,g⟩ := o
  dsimp only at hc
  subst hc
  simp only [execOp,Sem.run_bind] at hn
  cases hres : (resolve (⟨fn,tmps,.inRegion ops (i :: rest) :: k',ds',.run,kind,r⟩ : Frame).eval c type).run P w with
  | ok d w2 => rw [hres] at hn; simp at hn; exact hne d hn.1.symm
  | halt x w2 => rw [hres] at hn; simp at hn
 cases hl : lop P t h o.op o.type with
 | no => trivial
 | val v h2 =>
  rw [hl] at hop
  obtain ⟨σ',w',v',g,hv,hrun | ⟨hrun,rfl⟩⟩ := hop
  ·have hst := st_value (P := P) (fn := fn) (k := k') (ds := ds') (kind := kind) (cs := cs) ho hw (nodef hrun (by simp)) hrun
   exact ResOK.step (.one hst) g rfl rfl rfl (CsR.refl _ _) (put_ok hK (e.trans g.ext) g.sim (a.ext g.ext) hv)
  ·have hst := st_skipOp (P := P) (fn := fn) (k := k') (ds := ds') (kind := kind) (cs := cs) ho hw (nodef hrun (by simp)) hrun
   exact ResOK.step (.one hst) g rfl rfl rfl (CsR.refl _ _) (put_ok hK (e.trans g.ext) g.sim (a.ext g.ext) hv)
 | enter f args =>
  rw [hl] at hop
  obtain ⟨args',ha,hrun⟩ := hop
  exact backF_ok ho hw (nodef hrun (by simp)) hrec hK e s a hrun ha
 | round l args =>
  rw [hl] at hop
  obtain ⟨p,args',hp,ha,hrun⟩ := hop
  refine roundF_ok ho hw ?_ hrec hK e s a hp hrun ha
  right
  intro c hc
  rw [hc] at hl
  simp only [lop,kindOf,lheap,ldefer] at hl
  split at hl
  ·unfold deferValue at hl
   split at hl <;> cases hl
  ·cases hl
 | defer d =>
  rw [hl] at hop
  obtain ⟨d',hd',hrun⟩ := hop
  show ResOK P σ h w _ cs pan (deferF fx o.dst t h pan ds K d)
  unfold deferF
  cases hround : fx.round with
  | some l => trivial
  | none =>
   have hrr := a.round
   rw [hround] at hrr
   obtain rfl : r = none := hrr
   have hst := st_defer (P := P) (fn := fn) (k := k') (ds := ds') (kind := kind) (cs := cs) ho hw (.inl rfl) hrun
   exact ResOK.step (.one hst) (Goes.refl s) rfl rfl rfl (CsR.refl _ _) (put_ok hK e s ⟨a.fn,a.known,a.size,a.tmps,.cons hd' a.ds,a.round,a.pan⟩ rfl)
 | panic v =>
  rw [hl] at hop
  obtain ⟨v',hv,hrun⟩ := hop
  have hnd : r = none ∨ ∀ c,o.op ≠ .defer c := by
   right
   intro c hc
   obtain ⟨dst,op,type,pos,af,g⟩ := o
   dsimp only at hc
   subst hc
   simp only [lop,kindOf,lheap,ldefer] at hl
   split at hl
   ·unfold deferValue at hl
    split at hl <;> cases hl
   ·cases hl
  have hst := st_panic (P := P) (fn := fn) (k := k') (ds := ds') (kind := kind) (cs := cs) ho hw hnd hrun
  exact ResOK.step (.one hst) (Goes.refl s) rfl rfl rfl (CsR.refl _ _) (hrec.2 _ _ _ _ _ _ _ _ _ _ _ s (a.panicking hv _) a.pan)
 | recover =>
  rw [hl] at hop
  exact recoverF_ok ho hw hK e s a hop
end ops
end
end Go.Ev
namespace Go.Ev
open Go
section
variable {P : Program} {σ : Sg} {h : H} {w : World} {F : Frame} {cs : List Frame} {pan : Pan} {fx : Fx} {t : Tr LV} {todo k : List LItem} {ds : List LDef} {rec : Rec}
theorem bool_re {v : LV} {b : Bool} (h : v.re σ = some (.bool b)) : v = .prim (.bool b) := by
 cases v with
 | prim u => simp [LV.re] at h; rw [h]
 | ptr => simp only [LV.re] at h; split at h <;> cases h
 | slice => simp only [LV.re] at h; split at h <;> cases h
 | map => simp only [LV.re] at h; split at h <;> cases h
 | func => simp only [LV.re] at h; split at h <;> cases h
 | yield => simp only [LV.re] at h; split at h <;> cases h
 | iface => simp only [LV.re] at h; split at h <;> cases h
 | agg => simp only [LV.re] at h; split at h <;> cases h
 | tuple => simp only [LV.re] at h; split at h <;> cases h
theorem boolOf_eq {d : Nat} {tmps : Array Value} (ht : (getT t d).re σ = some (tmps.getD d undef)) : boolOf (t.get d) = (match tmps[d]? with | some (.bool b) => some b | _ => none) := by
 unfold getT at ht
 cases hg : t.get d with
 | none =>
  rw [hg] at ht
  simp only [undefL,LV.re,Option.some.injEq] at ht
  cases ha : tmps[d]? with
  | none => rfl
  | some u => simp [ha] at ht; subst ht; rfl
 | some v =>
  rw [hg] at ht
  dsimp only at ht
  cases ha : tmps[d]? with
  | none =>
   simp [ha] at ht
   have : boolOf (some v) = none := by
    unfold boolOf
    split
    ·rename_i b he; cases he; simp [LV.re,undef] at ht
    ·rfl
   rw [this]
  | some u =>
   simp [ha] at ht
   cases u with
   | bool b => rw [bool_re ht]; rfl
   | _ =>
    unfold boolOf
    split
    ·rename_i b he; cases he; simp [LV.re] at ht
    ·rfl
theorem wanted_eq {ops : Array Oper} {tmps : Array Value} (ht : ∀ i,(getT t i).re σ = some (tmps.getD i undef)) (o : Oper) : wantedG ops t o.guard = Region.wanted o (yielded ops tmps) := by
 unfold wantedG Region.wanted
 cases o.guard with
 | none => rfl
 | some x =>
  obtain ⟨j,want⟩ := x
  dsimp only
  have hy : yieldedL ops t j = yielded ops tmps j := by
   unfold yieldedL yielded
   cases ops[j]? with
   | none => rfl
   | some o2 =>
    simp only [Option.bind_some]
    cases o2.dst with
    | none => rfl
    | some d => exact boolOf_eq (ht d)
  rw [hy]
  cases yielded ops tmps j with
  | none => simp [wantB]
  | some b => simp [wantB]
theorem stepOp_ok {fn : FuncId} {tmps : Array Value} {ds' : List Deferred} {kind : CallKind} {r : Option Nat} {ops : Array Oper} {i : Nat} {rest : List Nat} {k' : List Item} {o : Oper} {K : KK} (ho : ops[i]? = some o)
  (hrec : Sound P rec) {σ0 : Sg} (hK : KOK P σ0 fx fn kind r (.inRegion ops rest :: k') K) (e : Ext σ0 σ) (s : Sim P σ h w) (a : AtOp P σ fx t ds fn tmps ds' kind r pan cs) :
  ResOK P σ h w ⟨fn,tmps,.inRegion ops (i :: rest) :: k',ds',.run,kind,r⟩ cs pan (stepOp P rec fx ops o t h pan ds K) := by
 have hwe := wanted_eq (ops := ops) a.tmps o
 have hout := fun hw => outF_ok (P := P) (ops := ops) (i:=i) ho hw hrec hK e s a
 obtain ⟨dst,op,type,pos,af,guard⟩ := o
 unfold stepOp
 dsimp only at hwe hout ⊢
 rw [hwe]
 cases hw : Region.wanted ⟨dst,op,type,pos,af,guard⟩ (yielded ops tmps) with
 | true => exact hout hw
 | false => exact ResOK.one s (st_unwanted ho hw) rfl rfl rfl (put_ok hK e s a rfl)
theorem opsF_ok {fn : FuncId} {kind : CallKind} {r : Option Nat} {ops : Array Oper} {k' : List Item} (hrec : Sound P rec) {σ0 : Sg} (hk : TodoR σ0 k k') (hr : RoundR σ0 fx.round r) (hfn : fn = fx.fn) (hkn : ∃ f,P.funcs[fx.fn]? = some f) :
  ∀ (l : List Oper) (i : Nat),l = ops.toList.drop i → KOK P σ0 fx fn kind r (.inRegion ops (List.range' i l.length) :: k') (opsF P rec fx ops k l) := by
 intro l
 induction l with
 | nil =>
  intro i _ σ h w t tmps ds ds' pan cs e s ht hs hd hp
  exact ResOK.one s st_regionEnd rfl rfl rfl (hrec.2 _ _ _ _ _ _ _ _ _ _ _ s ⟨hfn,hkn,hs,ht,hd,rfl,fun _ => hk.ext e,hr.ext e⟩ hp)
 | cons o l ih =>
  intro i hl σ h w t tmps ds ds' pan cs e s ht hs hd hp
  have hlt : i < ops.toList.length := by
   rcases Nat.lt_or_ge i ops.toList.length with h | h
   ·exact h
   ·rw [List.drop_eq_nil_of_le h] at hl; cases hl
  have hdrop := List.drop_eq_getElem_cons hlt
  rw [hdrop] at hl
  simp only [List.cons.injEq] at hl
  obtain ⟨h1,h2⟩ := hl
  have ho : ops[i]? = some o := by
   rw [← Array.getElem?_toList,List.getElem?_eq_getElem hlt,← h1]
  simp only [List.length_cons,List.range'_succ]
  exact stepOp_ok ho hrec (ih (i + 1) h2) e s ⟨hfn,hkn,hs,ht,hd,hr.ext e,hp⟩
theorem region_ok (hrec : Sound P rec) (s : Sim P σ h w) {id : Nat} {ops : Array Oper} (fr : FR P σ fx t (.code (.region id ops false) :: k) ds .run F) (hp : PanR σ pan F.kind cs) :
  ResOK P σ h w F cs pan (opsF P rec fx ops k ops.toList t h pan ds) := by
 obtain ⟨fn,tmps,todo',ds',mode',kind,r⟩ := F
 obtain rfl : mode' = .run := fr.mode
 have ht := fr.todo rfl
 cases ht with
 | cons hx hk =>
  cases hx
  have := opsF_ok (fn := fn) (kind := kind) (r := r) (ops := ops) hrec hk fr.round fr.fn fr.known ops.toList 0 (by simp) σ h w t tmps ds ds' pan cs (Ext.refl σ) s fr.tmps fr.size fr.ds hp
  refine ResOK.one s st_region rfl rfl rfl ?_
  rw [List.range_eq_range',show ops.size = ops.toList.length by simp]
  exact this
theorem st_endLoop {l : Nat} {fn : FuncId} {tmps : Array Value} {k' : List Item} {ds' : List Deferred} {kind : CallKind} {r : Option Nat} {lp : Loop} (hb : w.heap[l]? = some (.loop lp)) (hs : lp.state ≠ .busy) :
  step P (lone ⟨fn,tmps,.endRangeFunc l :: k',ds',.run,kind,r⟩ cs w) = .next (lone ⟨fn,tmps,(lp.pending.map Item.code).toList ++ k',ds',.run,kind,r⟩ cs { w with heap := w.heap.setIfInBounds l (.loop { lp with state := .exhausted }) }) := by
 refine step_lone_go ?_
 have hrun : (Instr.endLoop l).run P w = .ok lp.pending { w with heap := w.heap.setIfInBounds l (.loop { lp with state := .exhausted }) } := by
  simp [Instr.endLoop,Instr.getLoop,getObj,setObj,Sem.run,hb,hs]
 simp [stepG,stepG.exec,hrun]
theorem endLoopF_ok (hrec : Sound P rec) (s : Sim P σ h w) {l : Nat} (fr : FR P σ fx t (.endRangeFunc l :: k) ds .run F) (hp : PanR σ pan F.kind cs) : ResOK P σ h w F cs pan (endLoopF rec fx t k ds h pan l) := by
 obtain ⟨fn,tmps,todo',ds',mode',kind,r⟩ := F
 obtain rfl : mode' = .run := fr.mode
 have ht := fr.todo rfl
 cases ht with
 | @cons _ _ _ k' hx hk =>
  cases hx
  rename_i p hpl
  unfold endLoopF
  split
  ·rename_i st pending fn2 tmps2 m params assign body dr hb
   obtain ⟨tmps2',β,κ,hb',hsz,htm,hdr,f0,hf0⟩ := loop_obj s hb hpl
   split
   ·trivial
   ·rename_i hne
    refine set_elim (Φ := ResOK P σ h w _ cs pan) (by trivial) fun hlt => ?_
    have hst := st_endLoop (P := P) (cs := cs) (fn := fn) (tmps := tmps) (k' := k') (ds' := ds') (kind := kind) (r := r) hb' (fun e => hne e)
    have g := goes_set s hb rfl rfl hpl hlt (o1 := .loop .exhausted pending fn2 tmps2 m params assign body dr) (x1 := .loop { state := .exhausted,pending,fn := fn2,tmps := tmps2',params := params.toArray,assign,body,defers := β })
     ⟨tmps2',β,rfl,hsz,htm,⟨κ,hdr⟩,by simp [hf0]⟩ (w' := { w with heap := w.heap.setIfInBounds p.1 (.loop { state := .exhausted,pending,fn := fn2,tmps := tmps2',params := params.toArray,assign,body,defers := β }) }) rfl rfl rfl rfl
    have hk2 : TodoR σ (jumpTodo pending k) ((pending.map Item.code).toList ++ k') := by
     cases pending with
     | none => exact hk
     | some c => exact .cons (.code c) hk
    exact ResOK.step (.one hst) g rfl rfl rfl (CsR.refl _ _) (hrec.2 _ _ _ _ _ _ _ _ _ _ _ g.sim ⟨fr.fn,fr.known,fr.size,fr.tmps,fr.ds,rfl,fun _ => hk2,fr.round⟩ hp)
  ·trivial
theorem st_begin {l : Nat} {fn : FuncId} {tmps : Array Value} {k' : List Item} {ds' : List Deferred} {kind : CallKind} {lp : Loop} (hb : w.heap[l]? = some (.loop lp)) (hs : lp.state = .ready) :
  step P (lone ⟨fn,tmps,.beginRound :: k',ds',.run,kind,some l⟩ cs w) = .next (lone ⟨fn,tmps,k',ds',.run,kind,some l⟩ cs { w with heap := w.heap.setIfInBounds l (.loop { lp with state := .busy }) }) := by
 refine step_lone_go ?_
 have hrun : (Instr.beginRound l).run P w = .ok () { w with heap := w.heap.setIfInBounds l (.loop { lp with state := .busy }) } := by
  simp [Instr.beginRound,Instr.getLoop,getObj,setObj,Sem.run,hb,hs]
 simp [stepG,stepG.exec,stepG.apply,hrun,Frame.finish]
theorem beginF_ok (hrec : Sound P rec) (s : Sim P σ h w) (fr : FR P σ fx t (.beginRound :: k) ds .run F) (hp : PanR σ pan F.kind cs) : ResOK P σ h w F cs pan (beginF rec fx t k ds h pan) := by
 obtain ⟨fn,tmps,todo',ds',mode',kind,r⟩ := F
 obtain rfl : mode' = .run := fr.mode
 have ht := fr.todo rfl
 cases ht with
 | @cons _ _ _ k' hx hk =>
  cases hx
  unfold beginF
  cases hround : fx.round with
  | none => trivial
  | some l =>
   have hr := fr.round
   rw [hround] at hr
   obtain ⟨p,hpl,rfl⟩ := hr
   dsimp only
   split
   ·rename_i pending fn2 tmps2 m params assign body dr hb
    obtain ⟨tmps2',β,κ,hb',hsz,htm,hdr,f0,hf0⟩ := loop_obj s hb hpl
    refine set_elim (Φ := ResOK P σ h w _ cs pan) (by trivial) fun hlt => ?_
    have hst := st_begin (P := P) (cs := cs) (fn := fn) (tmps := tmps) (k' := k') (ds' := ds') (kind := kind) hb' rfl
    have g := goes_set s hb rfl rfl hpl hlt (o1 := .loop .busy pending fn2 tmps2 m params assign body dr) (x1 := .loop { state := .busy,pending,fn := fn2,tmps := tmps2',params := params.toArray,assign,body,defers := β })
     ⟨tmps2',β,rfl,hsz,htm,⟨κ,hdr⟩,by simp [hf0]⟩ (w' := { w with heap := w.heap.setIfInBounds p.1 (.loop { state := .busy,pending,fn := fn2,tmps := tmps2',params := params.toArray,assign,body,defers := β }) }) rfl rfl rfl rfl
    exact ResOK.step (.one hst) g rfl rfl rfl (CsR.refl _ _) (hrec.2 _ _ _ _ _ _ _ _ _ _ _ g.sim ⟨fr.fn,fr.known,fr.size,fr.tmps,fr.ds,rfl,fun _ => hk,fr.round⟩ hp)
   ·trivial
theorem lcall_enter (s : Sim P σ h w) {f g : FuncId} {args args2 : List LV} {args' : Array Value} (ha : LV.reL σ args = some args'.toList) (hl : lcall P h f args = .enter g args2) :
  g = f ∧ args2 = args ∧ (callFunc f args').run P w = .ok (.enter f args') w := by
 have := lcall_ok s (f := f) ha
 rw [hl] at this
 obtain ⟨a2,h1,h2⟩ := this
 unfold lcall at hl
 split at hl
 ·rename_i fn hf
  cases hb : fn.body with
  | some c =>
   rw [hb] at hl
   simp only [Option.isSome_some,cond_true] at hl
   cases hn : fn.name == "runtime.NumGoroutine" with
   | true => rw [hn] at hl; cases hl
   | false =>
    rw [hn] at hl
    simp only [cond_false] at hl
    cases hl
    exact ⟨rfl,rfl,callFunc_run hf hb hn args'⟩
  | none =>
   rw [hb] at hl
   simp only [Option.isSome_none,cond_false] at hl
   unfold lextern at hl
   split at hl
   ·unfold outNext at hl
    split at hl <;> cases hl
   ·cases hl
 ·cases hl
theorem rangeBack_ok (hrec : Sound P rec) {fn : FuncId} {tmps : Array Value} {k' : List Item} {ds' : List Deferred} {kind : CallKind} {r : Option Nat} (hk : TodoR σ k k') (s : Sim P σ h w)
  (a : AtOp P σ fx t ds fn tmps ds' kind r pan cs) {l : Nat} {p : Nat × Nat} (hp : σ l = some p) {g : FuncId} {args : List LV} {args' : Array Value} (ha : LV.reL σ args = some args'.toList) :
  ResOK P σ h w (Frame.enter P g args' .normal) (⟨fn,tmps,.inRangeFunc p.1 :: k',ds',.run,kind,r⟩ :: cs) .none (callF P rec g args h .none) →
  ∀ {F0 : Frame} {w0 : World} {σ0 : Sg} {h0 : H},Goes P σ0 h0 w0 σ h w → step P (lone F0 cs w0) = .next (lone (Frame.enter P g args' .normal) (⟨fn,tmps,.inRangeFunc p.1 :: k',ds',.run,kind,r⟩ :: cs) w) → F0.kind = kind → F0.fn = fn → F0.roundOf = r →
  ResOK P σ0 h0 w0 F0 cs pan (rangeBack rec fx t k ds pan l (callF P rec g args h .none)) := by
 intro hcall F0 w0 σ0 h0 g0 hst hk0 hf0 hr0
 cases hres : callF P rec g args h .none with
 | no => trivial
 | left => trivial
 | ret v h2 p2 =>
  rw [hres] at hcall
  obtain ⟨σ',w2,F2,cs2,v',f2,g,st,q1,q2,q3,q4,q5,q6,q7,q8⟩ := hcall
  have hcs := callers_same rfl q8
  subst hcs
  have hret := st_return (c := ⟨fn,tmps,.inRangeFunc p.1 :: k',ds',.run,kind,r⟩) (cs := cs) q3 q4 (by rw [q1]; rfl) q5 q6
  refine ResOK.step ((Steps.one hst).trans (st.trans (.one hret))) (g0.trans g) hk0.symm hf0.symm hr0.symm (CsR.refl _ _) ?_
  have a2 := a.ext g.ext
  exact hrec.2 _ _ _ _ _ _ _ _ _ _ _ g.sim ⟨a2.fn,a2.known,a2.size,a2.tmps,a2.ds,rfl,fun _ => .cons (.endRangeFunc (g.ext _ _ hp)) (hk.ext g.ext),a2.round⟩ a2.pan
 | panicked v h2 p2 =>
  rw [hres] at hcall
  obtain ⟨σ',w2,F2,cs2,v',f2,g,st,q1,q3,q4,q5,q7,q8⟩ := hcall
  have hcs := callers_same rfl q8
  subst hcs
  have hret := st_panicked (w := w2) (c := ⟨fn,tmps,.inRangeFunc p.1 :: k',ds',.run,kind,r⟩) (cs := cs) q3 q4 q5
  exact ResOK.step ((Steps.one hst).trans (st.trans (.one hret))) (g0.trans g) hk0.symm hf0.symm hr0.symm (CsR.refl _ _) (hrec.2 _ _ _ _ _ _ _ _ _ _ _ g.sim ((a.ext g.ext).panicking q7 _) (a.ext g.ext).pan)
theorem rangeLoop_ok (hrec : Sound P rec) {fn : FuncId} {tmps : Array Value} {k' : List Item} {ds0 ds' : List Deferred} {kind : CallKind} {r : Option Nat} {fo : Operand} {params : Array Tmp} {assign body : Code} (hk : TodoR σ k k') (s : Sim P σ h w)
  (a : AtOp P σ fx t ds fn tmps ds' kind r pan cs) {dr : Nat} {β κ : Nat} (hdr : σ dr = some (β,κ)) {mark : List Deferred} (hmark : ds' = mark ++ ds0) {w0 : World} {σ0 : Sg} {h0 : H} (g0 : Goes P σ0 h0 w0 σ h w)
  (hen : (Instr.enterLoop fn tmps params assign body r).run P w0 = .ok (w.heap.size,mark) (w.alloc (.loop { state := .ready,pending := none,fn,tmps,params,assign,body,defers := β }))) :
  ResOK P σ0 h0 w0 ⟨fn,tmps,.code (.rangeFunc fo params assign body) :: k',ds0,.run,kind,r⟩ cs pan (rangeLoop P rec fx t k ds h pan (ev t fo) params assign body dr) := by
 unfold rangeLoop
 refine new_elim (Φ := ResOK P σ0 h0 w0 _ cs pan) (by trivial) fun hlt => ?_
 obtain ⟨f0,hf0⟩ := a.known
 have hobj : ObjR P σ 0 (.loop .ready none fx.fn t fx.n params.toList assign body dr) (.loop { state := .ready,pending := none,fn,tmps,params,assign,body,defers := β }) :=
  ⟨tmps,β,by rw [a.fn],a.size,a.tmps,⟨κ,hdr⟩,by simp [hf0]⟩
 have g1 := goes_new s hlt hobj
 have a1 := a.ext g1.ext
 unfold rangeCall
 split
 ·rename_i g first captured hfv
  have hf : (ev t fo).re σ = some ((⟨fn,tmps,.code (.rangeFunc fo params assign body) :: k',ds0,.run,kind,r⟩ : Frame).eval fo) := by
   cases fo with
   | tmp i => exact a.tmps i
   | const v => rfl
   | global g => rfl
   | func f => rfl
  rw [hfv] at hf
  simp only [LV.re] at hf
  split at hf
  ·rename_i fs cps e1 e2
   simp only [Option.some.injEq] at hf
   have hput : (σ.put h.next (w.heap.size,0)) h.next = some (w.heap.size,0) := Sg.put_same
   have ha : LV.reL (σ.put h.next (w.heap.size,0)) (first ++ ([.yield h.next] ++ captured)) = some ((fs.toArray ++ #[Value.func (Fn.yield w.heap.size) #[] #[]] ++ cps.toArray).toList) := by
    simp only [Array.toList_append,List.append_assoc]
    exact reL_append (LV.reL_ext g1.ext e1) (reL_append (by simp [LV.reL,LV.re,hput]) (LV.reL_ext g1.ext e2))
   unfold enterOf
   split
   ·rename_i g2 args2 hl
    obtain ⟨rfl,rfl,hrun⟩ := lcall_enter g1.sim ha hl
    have hcall := callF_ok (pan := .none) (cs := ⟨fn,tmps,.inRangeFunc w.heap.size :: k',ds',.run,kind,r⟩ :: cs) (kind := .normal) hrec g1.sim (f := g2) ha (.inl rfl)
    refine rangeBack_ok (p := (w.heap.size,0)) hrec (hk.ext g1.ext) g1.sim a1 hput ha hcall (g0.trans g1) ?_ rfl rfl rfl
    refine step_lone_go ?_
    have hev : ({ fn := fn,tmps := tmps,todo := Item.inRangeFunc w.heap.size :: k',defers := mark ++ ds0,mode := FrameMode.run,kind := kind,roundOf := r } : Frame).eval fo = .func (.func g2) fs.toArray cps.toArray := by
     rw [hf]; cases fo <;> rfl
    have hres : (do let d ← resolve ({ fn := fn,tmps := tmps,todo := Item.inRangeFunc w.heap.size :: k',defers := mark ++ ds0,mode := FrameMode.run,kind := kind,roundOf := r } : Frame).eval { callee := .value fo,args := #[Operand.const (Value.func (Fn.yield w.heap.size) #[] #[])],argTypes := #[] } 0; invoke d.target d.args : Sem Next).run P (w.alloc (.loop { state := .ready,pending := none,fn,tmps,params,assign,body,defers := β })) =
      .ok (.enter g2 (fs.toArray ++ #[Value.func (Fn.yield w.heap.size) #[] #[]] ++ cps.toArray)) (w.alloc (.loop { state := .ready,pending := none,fn,tmps,params,assign,body,defers := β })) := by
     have hc : ∀ v : Value,({ fn := fn,tmps := tmps,todo := Item.inRangeFunc w.heap.size :: k',defers := mark ++ ds0,mode := FrameMode.run,kind := kind,roundOf := r } : Frame).eval (.const v) = v := fun _ => rfl
     simp only [resolve,hev,Deferred.ofValue,Sem.run_bind,Sem.run_pure,Result.andThen_ok,invoke,List.map_toArray,List.map_cons,List.map_nil,hc]
     exact hrun
    simp only [stepG,stepG.exec,Sem.runT_eq,hen]
    simp only [stepG.apply,Sem.runT_eq,hres,GStep.bare_after,if_true,hmark]
    rfl
   ·trivial
  ·cases hf
 ·trivial
end
end Go.Ev
namespace Go.Ev
open Go
section
variable {P : Program} {σ : Sg} {h : H} {w : World} {F : Frame} {cs : List Frame} {pan : Pan} {fx : Fx} {t : Tr LV} {todo k : List LItem} {ds : List LDef} {rec : Rec}
theorem enter_none {fn : FuncId} {tmps : Array Value} {params : Array Tmp} {assign body : Code} :
  (Instr.enterLoop fn tmps params assign body none).run P w = .ok ((w.alloc (.deferred (some []))).heap.size,[{ target := .collected w.heap.size,args := #[] }])
   ((w.alloc (.deferred (some []))).alloc (.loop { state := .ready,pending := none,fn,tmps,params,assign,body,defers := w.heap.size })) := by
 simp only [Instr.enterLoop,Sem.run_bind,run_newObj,Result.andThen_ok,Sem.run_pure]
 rfl
theorem enter_some {fn : FuncId} {tmps : Array Value} {params : Array Tmp} {assign body : Code} {l : Nat} {lp : Loop} (hb : w.heap[l]? = some (.loop lp)) :
  (Instr.enterLoop fn tmps params assign body (some l)).run P w = .ok (w.heap.size,[]) (w.alloc (.loop { state := .ready,pending := none,fn,tmps,params,assign,body,defers := lp.defers })) := by
 simp only [Instr.enterLoop,Instr.getLoop,getObj,Sem.run_bind,Sem.run,hb,Result.andThen_ok,Sem.run_pure,run_newObj]
 rfl
theorem rangeF_ok (hrec : Sound P rec) (s : Sim P σ h w) {fo : Operand} {params : Array Tmp} {assign body : Code} (fr : FR P σ fx t (.code (.rangeFunc fo params assign body) :: k) ds .run F) (hp : PanR σ pan F.kind cs) :
  ResOK P σ h w F cs pan (rangeF P rec fx t k ds h pan (ev t fo) params assign body) := by
 obtain ⟨fn,tmps,todo',ds',mode',kind,r⟩ := F
 obtain rfl : mode' = .run := fr.mode
 have ht := fr.todo rfl
 cases ht with
 | @cons _ _ _ k' hx hk =>
  cases hx
  unfold rangeF
  cases hround : fx.round with
  | none =>
   have hr := fr.round
   rw [hround] at hr
   obtain rfl : r = none := hr
   dsimp only
   refine new_elim (Φ := ResOK P σ h w _ cs pan) (by trivial) fun hlt => ?_
   have g1 := goes_new s hlt (o := .deferred false) (x := .deferred (some [])) (cap := 0) rfl
   have a : AtOp P (σ.put h.next (w.heap.size,0)) fx t (.collected h.next :: ds) fn tmps ({ target := .collected w.heap.size,args := #[] } :: ds') kind none pan cs :=
    ⟨fr.fn,fr.known,fr.size,fun i => LV.re_ext g1.ext (fr.tmps i),.cons ⟨_,Sg.put_same,rfl⟩ (fr.ds.ext g1.ext),by rw [hround]; rfl,PanR.ext g1.ext hp⟩
   exact rangeLoop_ok (mark := [{ target := .collected w.heap.size,args := #[] }]) (β := w.heap.size) (κ := 0) hrec (hk.ext g1.ext) g1.sim a Sg.put_same rfl g1 enter_none
  | some l =>
   have hr := fr.round
   rw [hround] at hr
   obtain ⟨p,hpl,hr⟩ := hr
   dsimp only at hr
   subst hr
   dsimp only
   split
   ·rename_i st pend fn2 tmps2 m ps av bd dr hb
    obtain ⟨tmps2',β,κ,hb',hsz,htm,hdr,f0,hf0⟩ := loop_obj s hb hpl
    have a : AtOp P σ fx t ds fn tmps ds' kind (some p.1) pan cs :=
     ⟨fr.fn,fr.known,fr.size,fr.tmps,fr.ds,by rw [hround]; exact ⟨p,hpl,rfl⟩,hp⟩
    exact rangeLoop_ok (mark := []) (β := β) (κ := κ) hrec hk s a hdr rfl (Goes.refl s) (enter_some hb')
   ·trivial
def behind (c : Frame) : Frame := match c.mode with
 | .panicking [{ recovered := true,goexit := false,.. }] => { c with mode := .returning }
 | _ => c
theorem st_returnD {F c : Frame} {v : Value} (hm : F.mode = .returning) (hd : F.defers = []) (hk : F.kind = .deferred) {f : Func} (hf : P.funcs[F.fn]? = some f) (hr : (results f F.tmps).run P w = .ok v w)
  (hc : c.mode = .returning ∨ ∃ v' b,c.mode = .panicking [entry v' b]) :
  step P (lone F (c :: cs) w) = .next (lone (behind c) cs w) := by
 obtain ⟨fn,tmps,td,ds',m,kind,r⟩ := F
 obtain rfl : m = .returning := hm
 obtain rfl : kind = .deferred := hk
 obtain rfl : ds' = [] := hd
 refine step_lone_go ?_
 have hf : P.funcs[fn]? = some f := hf
 have hr : (results f tmps).run P w = .ok v w := hr
 obtain ⟨cfn,ctm,ctd,cds,cm,ckind,cr⟩ := c
 rcases hc with hc | ⟨v',b,hc⟩
 ·obtain rfl : cm = .returning := hc
  simp [stepG,unwind,hf,hr,doReturn,behind]
 ·obtain rfl : cm = _ := hc
  cases b <;> simp [stepG,unwind,hf,hr,doReturn,behind,entry]
theorem st_callD {fn : FuncId} {tmps : Array Value} {td : List Item} {d : Deferred} {dl : List Deferred} {m : FrameMode} {kind : CallKind} {r : Option Nat} {f : FuncId} {fa : Fn} {cap a args : Array Value} (hm : m ≠ .run)
  (hd : d = { target := .fn fa cap,args := a }) (hr : (invoke (.fn fa cap) a).run P w = .ok (.enter f args) w) :
  step P (lone ⟨fn,tmps,td,d :: dl,m,kind,r⟩ cs w) = .next (lone (Frame.enter P f args .deferred) (⟨fn,tmps,td,dl,m,kind,r⟩ :: cs) w) := by
 subst hd
 refine step_lone_go ?_
 cases m with
 | run => exact absurd rfl hm
 | returning => simp [stepG,unwind,callDeferred,hr]
 | panicking c => simp [stepG,unwind,callDeferred,hr]
theorem unwindF_ok (hrec : Sound P rec) (s : Sim P σ h w) {v : Option LV} (fr : FR P σ fx t todo ds (modeOf v) F) (hp : PanR σ pan F.kind cs) :
  ResOK P σ h w F cs pan (unwindF P rec fx t ds h pan v) := by
 unfold unwindF
 split
 ·exact endF_ok s fr
 ·exact takeF_ok hrec s fr hp
 ·rename_i f args ds
  obtain ⟨fn,tmps,todo',ds',mode',kind,r⟩ := F
  have hd := fr.ds
  cases hd with
  | @cons _ y _ dl hx hk =>
   obtain ⟨captured,args',rfl,ha⟩ := hx
   have ha' : LV.reL σ args = some (args' ++ captured).toList := by simpa using ha
   unfold enterOf
   split
   ·rename_i g args2 hl
    obtain ⟨rfl,rfl,hrun⟩ := lcall_enter s ha' hl
    have hm : mode' ≠ .run := by
     rcases modeOf_R fr.mode with ⟨_,h⟩ | ⟨u,u',_,_,h⟩ <;> (have h : mode' = _ := h; rw [h]; simp)
    have hst := st_callD (P := P) (cs := cs) (fn := fn) (tmps := tmps) (td := todo') (dl := dl) (kind := kind) (r := r) hm rfl (show (invoke (.fn (.func g) captured) args').run P w = _ by simpa [invoke] using hrun)
    have hpan : PanR σ (panOf v) .deferred (⟨fn,tmps,todo',dl,mode',kind,r⟩ :: cs) := by
     rcases modeOf_R fr.mode with ⟨rfl,h⟩ | ⟨u,u',rfl,hu,h⟩
     ·exact .inr ⟨rfl,_,_,rfl,h⟩
     ·exact ⟨rfl,_,_,u',rfl,h,hu⟩
    have hcall := callF_ok (pan := panOf v) (cs := ⟨fn,tmps,todo',dl,mode',kind,r⟩ :: cs) (kind := .deferred) hrec s (f := g) ha' hpan
    dsimp only
    cases hres : callF P rec g args2 h (panOf v) with
    | no => exact True.intro
    | left => exact True.intro
    | panicked => exact True.intro
    | ret u h2 p2 =>
     rw [hres] at hcall
     obtain ⟨σ',w2,F2,cs2,v',f2,gg,st,q1,q2,q3,q4,q5,q6,q7,q8⟩ := hcall
     have next : ∀ (md : LMode) (m2 : FrameMode),ModeR σ' md m2 → md ≠ .run → ResOK P σ' h2 w2 ⟨fn,tmps,todo',dl,m2,kind,r⟩ cs pan (rec fx t [] ds md h2 pan) := fun md m2 hmd hne =>
      hrec.2 _ _ _ _ _ _ _ _ _ _ _ gg.sim ⟨fr.fn,fr.known,fr.size,fun i => LV.re_ext gg.ext (fr.tmps i),hk.ext gg.ext,hmd,fun e => absurd e hne,fr.round.ext gg.ext⟩ (PanR.ext gg.ext hp)
     rcases q8 with ⟨rfl,rfl⟩ | ⟨rfl,_,c1,rest1,v1,he,hm1,rfl⟩
     ·-- nothing was recovered
      have hc : mode' = .returning ∨ ∃ v' b,mode' = .panicking [entry v' b] := by
       rcases modeOf_R fr.mode with ⟨rfl,h⟩ | ⟨u,u',rfl,hu,h⟩
       ·exact .inl h
       ·exact .inr ⟨u',false,h⟩
      have hret := st_returnD (c := ⟨fn,tmps,todo',dl,mode',kind,r⟩) (cs := cs) q3 q4 (by rw [q1]; rfl) q5 q6 hc
      have hbh : behind ⟨fn,tmps,todo',dl,mode',kind,r⟩ = ⟨fn,tmps,todo',dl,mode',kind,r⟩ := by
       rcases modeOf_R fr.mode with ⟨rfl,h⟩ | ⟨u,u',rfl,hu,h⟩ <;> (have h : mode' = _ := h; subst h; rfl)
      rw [hbh] at hret
      have hne : panOf v ≠ .taken := by cases v <;> simp [panOf]
      have hfin := ResOK.step ((Steps.one hst).trans (st.trans (.one hret))) gg rfl rfl rfl (CsR.refl pan cs) (next (modeOf v) mode' (ModeR.ext gg.ext fr.mode) (by cases v <;> simp [modeOf]))
      cases v with
      | none => exact hfin
      | some u => exact hfin
     ·-- recovered
      simp only [List.cons.injEq] at he
      obtain ⟨rfl,rfl⟩ := he
      have hret := st_returnD (c := { (⟨fn,tmps,todo',dl,mode',kind,r⟩ : Frame) with mode := .panicking [entry v1 true] }) (cs := cs) q3 q4 (by rw [q1]; rfl) q5 q6 (.inr ⟨v1,true,rfl⟩)
      exact ResOK.step ((Steps.one hst).trans (st.trans (.one hret))) gg rfl rfl rfl (CsR.refl pan cs) (next .returning .returning rfl (by simp))
   ·trivial
theorem condF_ok (hrec : Sound P rec) (s : Sim P σ h w) {c : Operand} {a b : Code} (fr : FR P σ fx t (.code (.cond c a b) :: k) ds .run F) (hp : PanR σ pan F.kind cs) :
  ResOK P σ h w F cs pan (condF rec fx t k ds h pan (asBoolL (ev t c)) a b) := by
 have hc := fr.ev c
 obtain ⟨fn,tmps,todo',ds',mode',kind,r⟩ := F
 obtain rfl : mode' = .run := fr.mode
 have ht := fr.todo rfl
 cases ht with
 | @cons _ _ _ k' hx hk =>
  cases hx
  unfold condF
  split
  ·rename_i hb; exact go1 hrec s fr hp (.cons (.code a) hk) (st_cond (t := true) (asBoolL_spec hb hc))
  ·rename_i hb; exact go1 hrec s fr hp (.cons (.code b) hk) (st_cond (t := false) (asBoolL_spec hb hc))
  ·trivial
theorem codeF_ok (hrec : Sound P rec) (s : Sim P σ h w) {c : Code} (fr : FR P σ fx t (.code c :: k) ds .run F) (hp : PanR σ pan F.kind cs)
  (hdraw : ∀ id ops,c = .region id ops true → ResOK P σ h w F cs pan (regionBack rec fx k ds pan (evalR P ops t fx.n h (callN P rec)))) :
  ResOK P σ h w F cs pan (codeF P rec fx t c k ds h pan) := by
 have fr0 := fr
 obtain ⟨fn,tmps,todo',ds',mode',kind,r⟩ := F
 obtain rfl : mode' = .run := fr.mode
 have ht := fr.todo rfl
 cases ht with
 | @cons _ _ _ k' hx hk =>
  cases hx
  unfold codeF
  cases c with
  | ret => exact leaveF_ok hrec s fr hp (.inr (.inl ⟨k',rfl,rfl⟩))
  | skip => exact go1 hrec s fr hp hk st_skip
  | label l => exact go1 hrec s fr hp hk st_label
  | seq a b => exact go1 hrec s fr hp (.cons (.code a) (.cons (.code b) hk)) st_seq
  | cond c a b => exact condF_ok hrec s fr0 hp
  | block id body => exact go1 hrec s fr hp (.cons (.code body) (.cons (.inBlock id) hk)) st_block
  | loop body => exact go1 hrec s fr hp (.cons (.code body) (.cons (.inLoop body) hk)) st_loop
  | scope body => exact go1 hrec s fr hp (.cons (.code body) (.cons (.inScope body) hk)) st_scope
  | exit id =>
   show ResOK P σ h w _ cs pan (jumpF rec fx t ds h pan (.exit id) (exitToL id k))
   unfold jumpF
   obtain ⟨e1,e2⟩ := exitTo_spec (id := id) hk
   split
   ·rename_i k2 hk2; obtain ⟨k2',e3,e4⟩ := e2 _ hk2; exact go1 hrec s fr hp e4 (st_exit e3)
   ·rename_i hk2; exact leaveF_ok hrec s fr hp (.inr (.inr (.inl ⟨id,k',rfl,e1 hk2,rfl⟩)))
  | goto l =>
   show ResOK P σ h w _ cs pan (jumpF rec fx t ds h pan (.goto l) (gotoInL l k))
   unfold jumpF
   obtain ⟨e1,e2⟩ := gotoIn_spec (l := l) hk
   split
   ·rename_i k2 hk2; obtain ⟨k2',e3,e4⟩ := e2 _ hk2; exact go1 hrec s fr hp e4 (st_goto e3)
   ·rename_i hk2; exact leaveF_ok hrec s fr hp (.inr (.inr (.inr ⟨l,k',rfl,e1 hk2,rfl⟩)))
  | region id ops draw => cases draw with
   | false => exact region_ok hrec s fr0 hp
   | true => exact hdraw id ops rfl
  | rangeFunc f params assign body => exact rangeF_ok hrec s fr0 hp
  | refuse why => trivial
theorem stepF_ok (hrec : Sound P rec)
  (hdraw : ∀ (fx : Fx) (t : Tr LV) (k : List LItem) (ds : List LDef) (h : H) (pan : Pan) (σ : Sg) (w : World) (F : Frame) (cs : List Frame) (id : Nat) (ops : Array Oper),Sim P σ h w → FR P σ fx t (.code (.region id ops true) :: k) ds .run F → PanR σ pan F.kind cs →
   ResOK P σ h w F cs pan (regionBack rec fx k ds pan (evalR P ops t fx.n h (callN P rec)))) : Sound P ⟨stepF P rec,rec.memo⟩ := by
 refine ⟨hrec.1,?_⟩
 intro fx t todo ds mode h pan σ w F cs s fr hp
 show ResOK P σ h w F cs pan (stepF P rec fx t todo ds mode h pan)
 unfold stepF
 cases mode with
 | returning => exact unwindF_ok (v:=none) hrec s fr hp
 | panicking v => exact unwindF_ok (v:=some v) hrec s fr hp
 | run =>
  dsimp only
  unfold runF
  split
  ·have ht := fr.todo rfl
   refine leaveF_ok hrec s fr hp (.inl ⟨?_,rfl⟩)
   cases hF : F.todo with
   | nil => rfl
   | cons => rw [hF] at ht; cases ht
  ·rename_i x k
   unfold itemF
   cases x with
   | code c => exact codeF_ok hrec s fr hp fun id ops e => by subst e; exact hdraw _ _ _ _ _ _ _ _ _ _ id ops s fr hp
   | inBlock id =>
    obtain ⟨fn,tmps,todo',ds',mode',kind,r⟩ := F
    obtain rfl : mode' = .run := fr.mode
    have ht := fr.todo rfl
    cases ht with
    | @cons _ _ _ k' hx hk => cases hx; exact go1 hrec s fr hp hk st_inBlock
   | inScope c =>
    obtain ⟨fn,tmps,todo',ds',mode',kind,r⟩ := F
    obtain rfl : mode' = .run := fr.mode
    have ht := fr.todo rfl
    cases ht with
    | @cons _ _ _ k' hx hk => cases hx; exact go1 hrec s fr hp hk st_inScope
   | inLoop c =>
    obtain ⟨fn,tmps,todo',ds',mode',kind,r⟩ := F
    obtain rfl : mode' = .run := fr.mode
    have ht := fr.todo rfl
    cases ht with
    | @cons _ _ _ k' hx hk => cases hx; exact go1 hrec s fr hp (.cons (.code c) (.cons (.inLoop c) hk)) st_inLoop
   | endRangeFunc l => exact endLoopF_ok hrec s fr hp
   | beginRound => exact beginF_ok hrec s fr hp
end
end Go.Ev
namespace Go.Ev
open Go
def Pre (bs : Array Nat) (i j : Nat) : Prop := before bs i j = true
section before
variable {ops : Array Oper}
def bits (acc : Array Nat) (o : Oper) : Nat := o.after.foldl (fun s e => if Region.binds .any e then s ||| 2 ^ e.on ||| acc.getD e.on 0 else s) 0
theorem bits_test (acc : Array Nat) (i : Nat) : ∀ (l : List Edge) (s : Nat),
  (l.foldl (fun s e => if Region.binds .any e then s ||| 2 ^ e.on ||| acc.getD e.on 0 else s) s).testBit i = true ↔ s.testBit i = true ∨ ∃ e ∈ l,Region.binds .any e = true ∧ (e.on = i ∨ (acc.getD e.on 0).testBit i = true) := by
 intro l
 induction l with
 | nil => intro s; simp
 | cons e l ih =>
  intro s
  rw [List.foldl_cons,ih]
  by_cases hb : Region.binds .any e = true
  ·simp only [hb,if_true,Nat.testBit_or,Bool.or_eq_true,Nat.testBit_two_pow,decide_eq_true_eq,List.mem_cons]
   constructor
   ·rintro (((h | h) | h) | ⟨e',h1,h2,h3⟩)
    ·exact .inl h
    ·exact .inr ⟨e,.inl rfl,hb,.inl h⟩
    ·exact .inr ⟨e,.inl rfl,hb,.inr h⟩
    ·exact .inr ⟨e',.inr h1,h2,h3⟩
   ·rintro (h | ⟨e',h1 | h1,h2,h3⟩)
    ·exact .inl (.inl (.inl h))
    ·subst h1; rcases h3 with h3 | h3
     ·exact .inl (.inl (.inr h3))
     ·exact .inl (.inr h3)
    ·exact .inr ⟨e',h1,h2,h3⟩
  ·simp only [hb,Bool.false_eq_true,if_false,List.mem_cons]
   constructor
   ·rintro (h | ⟨e',h1,h2,h3⟩)
    ·exact .inl h
    ·exact .inr ⟨e',.inr h1,h2,h3⟩
   ·rintro (h | ⟨e',h1 | h1,h2,h3⟩)
    ·exact .inl h
    ·subst h1; exact absurd h2 hb
    ·exact .inr ⟨e',h1,h2,h3⟩
theorem before_list : ∀ (l : List Oper) (acc : Array Nat),(l.foldl (fun acc o => acc.push (bits acc o)) acc).size = acc.size + l.length ∧
  (∀ i,i < acc.size → (l.foldl (fun acc o => acc.push (bits acc o)) acc)[i]? = acc[i]?) ∧
  ∀ k o,l[k]? = some o → ∃ acc' : Array Nat,acc'.size = acc.size + k ∧ (l.foldl (fun acc o => acc.push (bits acc o)) acc)[acc.size + k]? = some (bits acc' o) ∧
   ∀ i,i < acc.size + k → acc'[i]? = (l.foldl (fun acc o => acc.push (bits acc o)) acc)[i]? := by
 intro l
 induction l with
 | nil => intro acc; exact ⟨rfl,fun _ _ => rfl,fun k o h => by simp at h⟩
 | cons o l ih =>
  intro acc
  obtain ⟨h1,h2,h3⟩ := ih (acc.push (bits acc o))
  simp only [List.foldl_cons,Array.size_push] at h1 h2 h3 ⊢
  refine ⟨by simp; omega,fun i hi => ?_,fun k o' hk => ?_⟩
  ·rw [h2 i (by omega),Array.getElem?_push_lt hi,Array.getElem?_eq_getElem hi]
  ·cases k with
   | zero =>
    simp at hk; subst hk
    refine ⟨acc,rfl,?_,fun i hi => ?_⟩
    ·rw [Nat.add_zero,h2 acc.size (by omega)]; simp
    ·rw [h2 i (by omega),Array.getElem?_push_lt (by simpa using hi),Array.getElem?_eq_getElem (by simpa using hi)]
   | succ k =>
    obtain ⟨acc',a1,a2,a3⟩ := h3 k o' (by simpa using hk)
    exact ⟨acc',by omega,by rw [show acc.size + (k + 1) = acc.size + 1 + k by omega]; exact a2,fun i hi => a3 i (by omega)⟩
theorem before_spec (hb : ∀ (k : Nat) (o : Oper),ops[k]? = some o → ∀ e ∈ o.after,Region.binds .any e = true → e.on < k) {i k : Nat} {o : Oper} (ho : ops[k]? = some o) :
  Pre (Region.before ops) i k ↔ ∃ e ∈ o.after,Region.binds .any e = true ∧ (e.on = i ∨ Pre (Region.before ops) i e.on) := by
 have e0 : Region.before ops = ops.toList.foldl (fun acc o => acc.push (bits acc o)) #[] := by
  unfold Region.before
  rw [← Array.foldl_toList]
  rfl
 obtain ⟨h1,h2,h3⟩ := before_list ops.toList #[]
 obtain ⟨acc',a1,a2,a3⟩ := h3 k o (by simpa using ho)
 rw [← e0] at a2 a3
 simp only [List.size_toArray,List.length_nil,Nat.zero_add] at a1 a2 a3
 unfold Pre before
 rw [a2]
 dsimp only
 have := bits_test acc' i o.after.toList 0
 rw [show (bits acc' o).testBit i = (o.after.toList.foldl (fun s e => if Region.binds .any e then s ||| 2 ^ e.on ||| acc'.getD e.on 0 else s) 0).testBit i by unfold bits; rw [← Array.foldl_toList]]
 rw [this]
 simp only [Nat.zero_testBit,Bool.false_eq_true,false_or,Array.mem_toList_iff]
 constructor
 ·rintro ⟨e,m1,m2,m3⟩
  refine ⟨e,m1,m2,m3.imp id fun m => ?_⟩
  have hlt := hb k o ho e m1 m2
  have := a3 e.on hlt
  rw [← this]
  cases hx : acc'[e.on]? with
  | none => simp [hx] at m
  | some x => simpa [hx] using m
 ·rintro ⟨e,m1,m2,m3⟩
  refine ⟨e,m1,m2,m3.imp id fun m => ?_⟩
  have hlt := hb k o ho e m1 m2
  have := a3 e.on hlt
  rw [← this] at m
  cases hx : acc'[e.on]? with
  | none => simp [hx] at m
  | some x => simpa [hx] using m
theorem pre_known (hb : ∀ (k : Nat) (o : Oper),ops[k]? = some o → ∀ e ∈ o.after,Region.binds .any e = true → e.on < k) {i k : Nat} (h : Pre (Region.before ops) i k) : ∃ o,ops[k]? = some o := by
 have e0 : Region.before ops = ops.toList.foldl (fun acc o => acc.push (bits acc o)) #[] := by
  unfold Region.before
  rw [← Array.foldl_toList]
  rfl
 obtain ⟨h1,_,_⟩ := before_list ops.toList #[]
 rw [← e0] at h1
 unfold Pre before at h
 split at h
 ·rename_i x hx
  obtain ⟨hlt,_⟩ := Array.getElem?_eq_some_iff.1 hx
  rw [h1] at hlt
  exact ⟨_,Array.getElem?_eq_getElem (by simpa using hlt)⟩
 ·cases h
theorem pre_trans (hb : ∀ (k : Nat) (o : Oper),ops[k]? = some o → ∀ e ∈ o.after,Region.binds .any e = true → e.on < k) : ∀ {k i j : Nat},Pre (Region.before ops) i j → Pre (Region.before ops) j k → Pre (Region.before ops) i k := by
 intro k
 induction k using Nat.strongRecOn with
 | _ k ih =>
  intro i j h1 h2
  obtain ⟨o,ho⟩ := pre_known hb h2
  obtain ⟨e,m1,m2,m3⟩ := (before_spec hb ho).1 h2
  have hlt := hb k o ho e m1 m2
  refine (before_spec hb ho).2 ⟨e,m1,m2,.inr ?_⟩
  rcases m3 with rfl | m3
  ·exact h1
  ·exact ih e.on hlt h1 m3
end before
def cnt (f : Nat → Bool) : Nat → Nat
 | 0 => 0
 | n + 1 => cnt f n + (if f n then 1 else 0)
theorem cnt_zero {f : Nat → Bool} : ∀ {n : Nat},cnt f n = 0 → ∀ i,i < n → f i = false := by
 intro n
 induction n with
 | zero => intro _ i hi; omega
 | succ n ih =>
  intro h i hi
  simp only [cnt] at h
  by_cases hn : f n = true
  ·simp [hn] at h
  ·rcases Nat.lt_succ_iff_lt_or_eq.1 hi with h' | rfl
   ·exact ih (by simp [hn] at h; exact h) i h'
   ·simpa using hn
theorem cnt_less {f g : Nat → Bool} {i : Nat} (hf : f i = true) (hg : g i = false) (he : ∀ j,j ≠ i → g j = f j) : ∀ {n : Nat},(i < n → cnt g n + 1 = cnt f n) ∧ (n ≤ i → cnt g n = cnt f n) := by
 intro n
 induction n with
 | zero => exact ⟨fun h => by omega,fun _ => rfl⟩
 | succ n ih =>
  refine ⟨fun h => ?_,fun h => ?_⟩
  ·simp only [cnt]
   by_cases hn : n = i
   ·subst hn
    rw [ih.2 (Nat.le_refl _),hf,hg]; simp
   ·have := ih.1 (by omega)
    rw [he n hn]; omega
  ·simp only [cnt]
   rw [ih.2 (by omega),he n (by omega)]
structure Order (ops : Array Oper) (l : List Nat) : Prop where
 all : ∀ i,i ∈ l ↔ i < ops.size
 nodup : l.Nodup
 pred : ∀ pre i post o e,l = pre ++ i :: post → ops[i]? = some o → e ∈ o.after → Region.binds .any e = true → e.on ∈ pre
theorem lin_spec {ops : Array Oper} (hb : ∀ (k : Nat) (o : Oper),ops[k]? = some o → ∀ e ∈ o.after,Region.binds .any e = true → e.on < k) :
  ∀ (fuel t : Nat) (listed : Array Bool),listed.size = ops.size → cnt (fun i => !listed.getD i true) ops.size ≤ fuel →
   (∀ i,i ∈ Region.linearise.go .any ops fuel t listed [] ↔ i < ops.size ∧ listed.getD i true = false) ∧ (Region.linearise.go .any ops fuel t listed []).Nodup ∧
   ∀ pre i post o e,Region.linearise.go .any ops fuel t listed [] = pre ++ i :: post → ops[i]? = some o → e ∈ o.after → Region.binds .any e = true → listed.getD e.on false = true ∨ e.on ∈ pre := by
 intro fuel
 induction fuel with
 | zero =>
  intro t listed hs hc
  have hz := cnt_zero (Nat.le_zero.1 hc)
  refine ⟨fun i => ⟨fun h => by simp [Region.linearise.go] at h,fun ⟨h1,h2⟩ => ?_⟩,by simp [Region.linearise.go],fun pre i post o e h => by simp [Region.linearise.go] at h⟩
  have := hz i h1
  simp only [h2,Bool.not_false] at this
  cases this
 | succ fuel ih =>
  intro t listed hs hc
  have hgo : Region.linearise.go .any ops (fuel + 1) t listed [] = (match (Region.ready .any ops listed)[t % (Region.ready .any ops listed).length]? with
   | some i => Region.linearise.go .any ops fuel (t / (Region.ready .any ops listed).length) (listed.setIfInBounds i true) [i]
   | none => [].reverse) := rfl
  rw [hgo]
  cases hi : (Region.ready .any ops listed)[t % (Region.ready .any ops listed).length]? with
  | none =>
   have hnil : Region.ready .any ops listed = [] := by
    cases hr : Region.ready .any ops listed with
    | nil => rfl
    | cons x xs =>
     rw [hr] at hi
     have hlt : t % (x :: xs).length < (x :: xs).length := Nat.mod_lt _ (by simp)
     rw [List.getElem?_eq_getElem hlt] at hi
     cases hi
   have hall : ∀ i,i < ops.size → listed.getD i true = true := by
    intro i
    induction i using Nat.strongRecOn with
    | _ i ih2 =>
     intro hlt
     cases hli : listed.getD i true with
     | true => rfl
     | false =>
      have : i ∈ Region.ready .any ops listed := by
       refine mem_ready.2 ⟨hli,ops[i],by simp [hlt],fun e he hbe => ?_⟩
       have h3 := hb i ops[i] (by simp [hlt]) e he hbe
       have := ih2 e.on h3 (by omega)
       have h4 : e.on < listed.size := by omega
       simp [h4] at this ⊢
       exact this
      rw [hnil] at this; cases this
   refine ⟨fun i => ⟨fun h => by simp at h,fun ⟨h1,h2⟩ => ?_⟩,by simp,fun pre i post o e h => by simp at h⟩
   rw [hall i h1] at h2; cases h2
  | some i =>
   dsimp only
   rw [linearise_go_acc,List.reverse_singleton,List.singleton_append]
   have hmem : i ∈ Region.ready .any ops listed := List.mem_of_getElem? hi
   obtain ⟨hun,o0,ho0,hpre⟩ := mem_ready.1 hmem
   have hlt : i < ops.size := (Array.getElem?_eq_some_iff.1 ho0).1
   have hget : ∀ j,(listed.setIfInBounds i true).getD j true = if j = i then true else listed.getD j true := by
    intro j
    by_cases e : j = i
    ·subst e; simp [hs,hlt]
    ·simp [e,Array.getElem?_setIfInBounds_ne (fun h => e h.symm)]
   have hcnt := (cnt_less (f := fun i => !listed.getD i true) (g := fun j => !(listed.setIfInBounds i true).getD j true) (i:=i) (by simp only [hun]; rfl) (by simp only [hget]; simp) (fun j hj => by simp only [hget,hj,if_false]) (n:=ops.size)).1 hlt
   obtain ⟨h1,h2,h3⟩ := ih (t / (Region.ready .any ops listed).length) (listed.setIfInBounds i true) (by simpa using hs) (by omega)
   refine ⟨fun j => ?_,?_,?_⟩
   ·rw [List.mem_cons,h1,hget]
    by_cases e : j = i
    ·subst e; simp [hlt,hun]
    ·simp [e]
   ·refine List.nodup_cons.2 ⟨fun h => ?_,h2⟩
    have := ((h1 i).1 h).2
    rw [hget] at this; simp at this
   ·intro pre j post o e heq ho he hbe
    cases pre with
    | nil =>
     simp only [List.nil_append,List.cons.injEq] at heq
     obtain ⟨rfl,_⟩ := heq
     rw [ho0] at ho; cases ho
     exact .inl (hpre e he hbe)
    | cons p pre =>
     simp only [List.cons_append,List.cons.injEq] at heq
     obtain ⟨rfl,heq⟩ := heq
     rcases h3 pre j post o e heq ho he hbe with h | h
     ·by_cases e2 : e.on = i
      ·right; rw [e2]; exact List.mem_cons_self
      ·left
       rw [getD_set_ne false (fun h => e2 h.symm)] at h
       exact h
     ·right; exact List.mem_cons_of_mem _ h
theorem order_of {ops : Array Oper} (hb : ∀ (k : Nat) (o : Oper),ops[k]? = some o → ∀ e ∈ o.after,Region.binds .any e = true → e.on < k) (t : Nat) : Order ops (Region.linearise .any ops t) := by
 have hle : cnt (fun i => !(Array.replicate ops.size false).getD i true) ops.size ≤ ops.size := by
  have : ∀ (f : Nat → Bool) (n : Nat),cnt f n ≤ n := by
   intro f n
   induction n with
   | zero => simp [cnt]
   | succ n ih => simp only [cnt]; split <;> omega
  exact this _ _
 obtain ⟨h1,h2,h3⟩ := lin_spec hb ops.size t (Array.replicate ops.size false) (by simp) hle
 refine ⟨fun i => ?_,h2,fun pre i post o e hl ho he hbe => ?_⟩
 ·rw [show Region.linearise .any ops t = Region.linearise.go .any ops ops.size t (Array.replicate ops.size false) [] from rfl,h1]
  constructor
  ·exact fun h => h.1
  ·intro h; exact ⟨h,by simp [h]⟩
 ·rcases h3 pre i post o e hl ho he hbe with h | h
  ·simp [Array.getElem?_replicate] at h
   split at h <;> simp at h
  ·exact h
end Go.Ev
namespace Go.Ev
open Go
namespace Tr
variable {α : Type}
def keep (p : Nat → Bool) : Tr α → Tr α
 | .nil => .nil
 | .node v l r => .node (if p 0 then v else none) (keep (fun i => p (2 * i + 1)) l) (keep (fun i => p (2 * i + 2)) r)
theorem get_keep (t : Tr α) : ∀ (p : Nat → Bool) (i : Nat),(t.keep p).get i = if p i then t.get i else none := by
 induction t with
 | nil => intro p i; simp [keep,get]
 | node v l r hl hr =>
  intro p i
  simp only [keep,get,beq_dec,cond_eq_ite,decide_eq_true_eq]
  by_cases h0 : i = 0
  ·subst h0; simp
  ·rw [if_neg h0,if_neg h0]
   have d1 : Nat.div i 2 = i / 2 := rfl
   have m1 : Nat.mod i 2 = i % 2 := rfl
   by_cases h1 : Nat.mod i 2 = 1
   ·rw [if_pos h1,if_pos h1,hl]
    rw [d1,m1] at *
    have : 2 * (i / 2) + 1 = i := by omega
    rw [this]
   ·rw [if_neg h1,if_neg h1,hr]
    rw [d1,m1] at *
    have : 2 * (Nat.pred (i / 2)) + 2 = i := by simp only [Nat.pred_eq_sub_one]; omega
    rw [this]
end Tr
section
variable {P : Program} {t t' : Tr LV}
theorem argsL_congr {xs : Array Operand} (h : ∀ x ∈ xs,ev t x = ev t' x) : argsL t xs = argsL t' xs := by
 unfold argsL
 exact List.map_congr_left fun x hx => h x (by simpa using hx)
theorem evParts_congr {ps : Array (Nat × Operand)} (h : ∀ x ∈ (ps.toList.map (·.2)).toArray,ev t x = ev t' x) : evParts t ps = evParts t' ps := by
 unfold evParts
 refine List.map_congr_left fun p hp => ?_
 rw [h p.2 (by simpa using ⟨p.1,by simpa using hp⟩)]
theorem lpure_congr {op : Op} {type : TypeId} (h : ∀ x ∈ op.operands,ev t x = ev t' x) : lpure P t op type = lpure P t' op type := by
 cases op <;> simp only [Op.operands] at h <;> simp only [lpure]
 case pick c a b => simp only [pPick,h c (by simp),h a (by simp),h b (by simp)]
 case build ty ps => simp only [pBuild,evParts_congr h]
 case makeFunc fn first captured =>
  cases fn <;> simp only [pMakeF]
  rw [argsL_congr (xs := first) fun x hx => h x (by simp [hx]),argsL_congr (xs := captured) fun x hx => h x (by simp [hx])]
 case slice ty x lo hi mx => cases lo <;> cases hi <;> cases mx <;> simp_all
 case call c =>
  simp only [pCall]
  split
  ·rename_i b hc
   rw [argsL_congr fun x hx => h x (by simp [Call.operands,hc,hx])]
  ·rfl
 all_goals (first | rfl | (simp_all; done))
theorem lalloc_congr {op : Op} (h : ∀ x ∈ op.operands,ev t x = ev t' x) : lalloc P t op = lalloc P t' op := by
 cases op <;> simp only [Op.operands] at h <;> simp only [lalloc]
 case buildSlice ty n ps => simp only [aBuild,evParts_congr h]
 case makeMap ty r => cases r <;> simp_all [aMap]
 all_goals (first | rfl | (simp_all; done))
theorem lheap_congr {h : H} {op : Op} (hx : ∀ x ∈ op.operands,ev t x = ev t' x) : lheap P t h op = lheap P t' h op := by
 cases op <;> simp only [Op.operands] at hx <;> simp only [lheap]
 case slice ty x lo hi mx => cases lo <;> cases hi <;> cases mx <;> simp_all
 case call c =>
  simp only [lcallOp]
  split
  ·rename_i b hc; rw [argsL_congr fun x hm => hx x (by simp [Call.operands,hc,hm])]
  ·rename_i f hc; rw [argsL_congr fun x hm => hx x (by simp [Call.operands,hc,hm]),hx f (by simp [Call.operands,hc])]
  ·rfl
 case defer c =>
  simp only [ldefer]
  split
  ·rename_i f hc; rw [argsL_congr fun x hm => hx x (by simp [Call.operands,hc,hm]),hx f (by simp [Call.operands,hc])]
  ·rfl
 all_goals (first | rfl | (simp_all; done))
end
end Go.Ev
