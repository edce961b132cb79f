/- An abstract interpreter over a loaded program and its soundness against the model, part 5: for every context that fits the program. -/
import Derived.Test.YtdlahjpoiichkaaGreatDoorE4
import GoSem.ClaimChange
import Derived.Below
import Derived.WideShapes
set_option linter.unusedVariables false
set_option linter.unusedSimpArgs false
set_option linter.unusedSectionVars false
namespace Go.AE
open Go
def CLe (c d:CallF):Prop:=∀ t a k s r,c t a k s = some r → d t a k s = some r
structure Chain (c:Nat → CallF) (L:CallF):Prop where
 up:∀ n m,n ≤ m → CLe (c n) (c m)
 lim:∀ t a k s r,L t a k s = some r → ∃ n,c n t a k s = some r
def Ev (p:Nat → Prop):Prop:=∃ n,∀ m,n ≤ m → p m
theorem Ev.pure {p:Nat → Prop} (h:∀ m,p m):Ev p:=⟨0,fun m _ => h m⟩
theorem Ev.and {p q:Nat → Prop} (h:Ev p) (k:Ev q):Ev fun m => p m ∧ q m:=by
 obtain ⟨a,ha⟩:=h
 obtain ⟨b,hb⟩:=k
 exact ⟨max a b,fun m hm => ⟨ha m (by omega),hb m (by omega)⟩⟩
theorem Ev.mono {p q:Nat → Prop} (h:Ev p) (k:∀ m,p m → q m):Ev q:=by
 obtain ⟨a,ha⟩:=h
 exact ⟨a,fun m hm => k m (ha m hm)⟩
theorem Ev.and_mono {p q r:Nat → Prop} (h:Ev p) (k:Ev q) (f:∀ m,p m → q m → r m):Ev r:=(h.and k).mono fun m ⟨a,b⟩ => f m a b
theorem Chain.ev {c:Nat → CallF} {L:CallF} (h:Chain c L) {t:Tgt} {a:List AV} {k:Knd} {s:St} {r:CR × St × Option AV} (hr:L t a k s = some r):Ev fun m => c m t a k s = some r:=by
 obtain ⟨n,hn⟩:=h.lim t a k s r hr
 exact ⟨n,fun m hm => h.up n m hm t a k s r hn⟩
theorem Chain.const {c:CallF}:Chain (fun _ => c) c:=⟨fun _ _ _ _ _ _ _ _ h => h,fun _ _ _ _ _ h => ⟨0,h⟩⟩
theorem CLe.chain {c d:CallF} (h:CLe c d):Chain (fun _ => d) c:=⟨fun _ _ _ _ _ _ _ _ hr => hr,fun t a k s r hr => ⟨0,h t a k s r hr⟩⟩
theorem Ev.const {p:Prop} (h:Ev fun _ => p):p:=by obtain ⟨n,hn⟩:=h; exact hn n (Nat.le_refl _)
section
variable {C:Ctx} {mu ro:Bool}
theorem runOp_cont {c:Nat → CallF} {L:CallF} (h:Chain c L) {o:Oper} {fr:Fr} {st:St} {out:Out} (hr:runOp L C mu ro o fr st = some out):Ev fun m => runOp (c m) C mu ro o fr st = some out:=by
 unfold runOp at hr ⊢
 split at hr
 ·exact .pure fun _ => hr
 ·exact .pure fun _ => hr
 ·exact .pure fun _ => hr
 ·exact .pure fun _ => hr
 ·unfold callA at hr ⊢
  split at hr
  ·split at hr
   ·split at hr
    ·rename_i v s x hcl; exact (h.ev hcl).mono fun m e => by simp only [e]; exact hr
    ·rename_i v s x hcl; exact (h.ev hcl).mono fun m e => by simp only [e]; exact hr
    ·cases hr
   ·cases hr
  ·cases hr
theorem runOps_cont {c:Nat → CallF} {L:CallF} (h:Chain c L) {ops:Array Oper}:∀ {l:List Oper} {fr:Fr} {st:St} {out:Out},runOps L C mu ro ops l fr st = some out → Ev fun m => runOps (c m) C mu ro ops l fr st = some out
 | [],fr,st,out,hr => .pure fun _ => hr
 | o :: l,fr,st,out,hr => by
  simp only [runOps] at hr ⊢
  split at hr
  ·cases hr
  ·exact runOps_cont h hr
  ·cases h1:runOp L C mu ro o fr st with
   | none => rw [h1] at hr; cases hr
   | some o1 =>
    obtain ⟨e,fr1,st1⟩:=o1
    rw [h1] at hr
    by_cases he:e = .norm
    ·subst he
     exact Ev.and_mono (runOp_cont h h1) (runOps_cont h hr) fun m e1 e2 => by simp only [e1]; exact e2
    ·exact (runOp_cont h h1).mono fun m e1 => by
      simp only [e1]
      cases e with
      | norm => exact absurd rfl he
      | _ => exact hr
theorem runDraw_cont {c:Nat → CallF} {L:CallF} (h:Chain c L) {ops:Array Oper}:∀ {l:List Oper} {i:Nat} {fr:Fr} {st:St} {out:Fr × St × List Info},runDraw (fun _ => L) C mu ro ops i l fr st = some out → Ev fun m => runDraw (fun _ => c m) C mu ro ops i l fr st = some out
 | [],i,fr,st,out,hr => .pure fun _ => hr
 | o :: l,i,fr,st,out,hr => by
  simp only [runDraw] at hr ⊢
  split at hr
  ·cases hr
  ·split at hr
   ·rename_i fr1 st1 info1 h1
    exact (runDraw_cont h h1).mono fun m e => by simp only [e]; exact hr
   ·cases hr
  ·cases h1:runOp L C mu ro o fr ⟨st.heap,st.next,[]⟩ with
   | none => rw [h1] at hr; cases hr
   | some o1 =>
    obtain ⟨e,fr1,st1⟩:=o1
    rw [h1] at hr
    cases e with
    | norm =>
     simp only at hr
     split at hr
     ·rename_i hall
      split at hr
      ·rename_i fr2 st2 info2 h2
       exact Ev.and_mono (runOp_cont h h1) (runDraw_cont h h2) fun m e1 e2 => by simp only [e1,if_pos hall,e2]; exact hr
      ·cases hr
     ·cases hr
    | _ => cases hr
theorem region_cont {c:Nat → CallF} {L:CallF} (h:Chain c L) {ops:Array Oper} {draw:Bool} {fr:Fr} {st:St} {out:Out} (hr:region L C mu ro ops draw fr st = some out):Ev fun m => region (c m) C mu ro ops draw fr st = some out:=by
 unfold region at hr ⊢
 cases draw with
 | false => exact runOps_cont h hr
 | true =>
  simp only [if_true] at hr ⊢
  split at hr
  ·cases hr
  ·rename_i fr1 st1 info1 h1
   exact (runDraw_cont h h1).mono fun m e => by simp only [e]; exact hr
theorem rangeLoop_cont {c:Nat → CallF} {L:CallF} (h:Chain c L) {self g:FuncId} {first captured:List AV} {params:List Tmp} {assign body:Code} {d:Nat} {fr:Fr} {st:St} {out:Out}
  (hr:rangeLoop L self g first captured params assign body d fr st = some out):Ev fun m => rangeLoop (c m) self g first captured params assign body d fr st = some out:=by
 unfold rangeLoop at hr ⊢
 split at hr
 ·rename_i v s x hcl; exact (h.ev hcl).mono fun m e => by simp only [e]; exact hr
 ·rename_i v s x hcl; exact (h.ev hcl).mono fun m e => by simp only [e]; exact hr
 ·cases hr
theorem iter_more {f:Fr → St → Option Out}:∀ {n:Nat} {fr:Fr} {st:St} {out:Out},iter f n fr st = some out → ∀ {m:Nat},n ≤ m → iter f m fr st = some out
 | 0,_,_,_,h,_,_ => by cases h
 | n + 1,fr,st,out,h,m,hm => by
  obtain ⟨k,rfl⟩:∃ k,m = k + 1:=⟨m - 1,by omega⟩
  simp only [iter] at h ⊢
  cases hf:f fr st with
  | none => rw [hf] at h; cases h
  | some o1 =>
   obtain ⟨e,fr1,st1⟩:=o1
   rw [hf] at h
   cases e with
   | norm => exact iter_more h (by omega)
   | _ => exact h
theorem iterW_iff {f:Fr → St → Option Out} {fr:Fr} {st:St} {out:Out}:iterW f fr st = some out ↔ ∃ n,iter f n fr st = some out:=by
 refine ⟨iterW_some,fun ⟨n,hn⟩ => ?_⟩
 have hx:∃ out,∃ n,iter f n fr st = some out:=⟨out,n,hn⟩
 unfold iterW
 rw [dif_pos hx]
 obtain ⟨m,hm⟩:=hx.choose_spec
 have h1:=iter_more hn (Nat.le_max_left n m)
 have h2:=iter_more hm (Nat.le_max_right n m)
 rw [h1] at h2
 exact h2.symm
theorem iterW_eq {f:Fr → St → Option Out} {fr:Fr} {st:St}:iterW f fr st = (match f fr st with | some (.norm,fr,st) => iterW f fr st | r => r):=by
 apply Option.ext
 intro out
 rw [iterW_iff]
 constructor
 ·rintro ⟨n,hn⟩
  cases n with
  | zero => cases hn
  | succ n =>
   simp only [iter] at hn
   cases hf:f fr st with
   | none => rw [hf] at hn; cases hn
   | some o1 =>
    obtain ⟨e,fr1,st1⟩:=o1
    rw [hf] at hn
    cases e with
    | norm => exact iterW_iff.2 ⟨n,hn⟩
    | _ => exact hn
 ·intro h
  cases hf:f fr st with
  | none => rw [hf] at h; cases h
  | some o1 =>
   obtain ⟨e,fr1,st1⟩:=o1
   rw [hf] at h
   cases e with
   | norm =>
    obtain ⟨n,hn⟩:=iterW_iff.1 h
    exact ⟨n + 1,by simp only [iter,hf]; exact hn⟩
   | _ => exact ⟨1,by simp only [iter,hf]; exact h⟩
theorem iter_cont {f:Fr → St → Option Out} {g:Nat → Fr → St → Option Out} (h:∀ fr st out,f fr st = some out → Ev fun m => g m fr st = some out):∀ {n:Nat} {fr:Fr} {st:St} {out:Out},iter f n fr st = some out → Ev fun m => iter (g m) n fr st = some out
 | 0,_,_,_,hr => by cases hr
 | n + 1,fr,st,out,hr => by
  simp only [iter] at hr ⊢
  cases hf:f fr st with
  | none => rw [hf] at hr; cases hr
  | some o1 =>
   obtain ⟨e,fr1,st1⟩:=o1
   rw [hf] at hr
   have h1:=h _ _ _ hf
   cases e with
   | norm => exact Ev.and_mono h1 (iter_cont h hr) fun m e1 e2 => by simp only [e1]; exact e2
   | _ => exact h1.mono fun m e1 => by simp only [e1]; exact hr
theorem iterO_cont {f:Fr → St → Option Out} {g:Nat → Fr → St → Option Out} (h:∀ fr st out,f fr st = some out → Ev fun m => g m fr st = some out) {n:Option Nat} {fr:Fr} {st:St} {out:Out} (hr:iterO f n fr st = some out):Ev fun m => iterO (g m) n fr st = some out:=by
 cases n with
 | some n => exact iter_cont h hr
 | none =>
  obtain ⟨n,hn⟩:=iterW_iff.1 (show iterW f fr st = some out from hr)
  exact (iter_cont h hn).mono fun m e => iterW_iff.2 ⟨n,e⟩
theorem exec_cont {c:Nat → CallF} {L:CallF} (h:Chain c L) {n:Option Nat} {self:FuncId} {ro:Option Nat}:∀ (cd:Code) {fr:Fr} {st:St} {out:Out},exec L C n self ro cd fr st = some out → Ev fun m => exec (c m) C n self ro cd fr st = some out:=by
 intro cd
 induction cd with
 | skip => intro fr st out hr; exact .pure fun _ => hr
 | label l => intro fr st out hr; exact .pure fun _ => hr
 | region id ops draw => intro fr st out hr; simp only [exec] at hr ⊢; exact region_cont h hr
 | seq a b iha ihb =>
  intro fr st out hr
  simp only [exec] at hr ⊢
  cases h1:exec L C n self ro a fr st with
  | none => rw [h1] at hr; cases hr
  | some o1 =>
   obtain ⟨e,fr1,st1⟩:=o1
   rw [h1] at hr
   cases e with
   | norm => exact Ev.and_mono (iha h1) (ihb hr) fun m e1 e2 => by simp only [e1]; exact e2
   | _ => exact (iha h1).mono fun m e1 => by simp only [e1]; exact hr
 | cond x a b iha ihb =>
  intro fr st out hr
  simp only [exec] at hr ⊢
  split at hr
  ·rename_i t ht
   cases t with
   | true => exact iha hr
   | false => exact ihb hr
  ·cases hr
 | block id a iha =>
  intro fr st out hr
  simp only [exec] at hr ⊢
  cases h1:exec L C n self ro a fr st with
  | none => rw [h1] at hr; cases hr
  | some o1 => rw [h1] at hr; exact (iha h1).mono fun m e1 => by simp only [e1]; exact hr
 | loop a iha => intro fr st out hr; simp only [exec] at hr ⊢; exact iterO_cont (fun fr st out h => iha h) hr
 | rangeFunc f params assign body _ _ =>
  intro fr st out hr
  simp only [exec] at hr ⊢
  split at hr
  ·rename_i g first captured hf
   split at hr
   ·cases hr
   ·rename_i hg
    simp only [if_neg hg]
    split at hr
    ·exact rangeLoop_cont h hr
    ·split at hr
     ·exact rangeLoop_cont h hr
     ·cases hr
  ·cases hr
 | exit id => intro fr st out hr; exact .pure fun _ => hr
 | goto l => intro fr st out hr; exact .pure fun _ => hr
 | ret => intro fr st out hr; exact .pure fun _ => hr
 | scope a _ => intro fr st out hr; cases hr
 | refuse t => intro fr st out hr; cases hr
theorem runDefs_cont {c:Nat → CallF} {L:CallF} (h:Chain c L):∀ {ds:List ADef} {pv:Option AV} {st:St} {out:Option AV × St},runDefs L ds pv st = some out → Ev fun m => runDefs (c m) ds pv st = some out
 | [],_,_,_,hr => .pure fun _ => hr
 | ⟨none,l,x⟩ :: ds,pv,st,out,hr => by
  simp only [runDefs] at hr ⊢
  split at hr
  ·exact runDefs_cont h hr
  ·cases hr
 | ⟨some f,x,args⟩ :: ds,pv,st,out,hr => by
  simp only [runDefs] at hr ⊢
  split at hr
  ·rename_i v s p hcl
   exact Ev.and_mono (h.ev hcl) (runDefs_cont h hr) fun m e1 e2 => by simp only [e1]; exact e2
  ·cases hr
theorem finishFn_cont {c:Nat → CallF} {L:CallF} (h:Chain c L) {f:FuncId} {fi:FI} {kd:Knd} {st0:St} {e:EX} {fr:Fr} {st1:St} {out:CR × St × Option AV} (hr:finishFn L C f fi kd st0 e fr st1 = some out):Ev fun m => finishFn (c m) C f fi kd st0 e fr st1 = some out:=by
 unfold finishFn at hr ⊢
 split at hr
 ·cases hr
 ·rename_i pv he
  split at hr
  ·cases hr
  ·rename_i v st2 h1; exact (runDefs_cont h h1).mono fun m e1 => by simp only [e1]; exact hr
  ·rename_i st2 h1; exact (runDefs_cont h h1).mono fun m e1 => by simp only [e1]; exact hr
theorem enterFn_cont {c:Nat → CallF} {L:CallF} (h:Chain c L) {n:Option Nat} {f:FuncId} {fi:FI} {args:List AV} {kd:Knd} {st:St} {out:CR × St × Option AV} (hr:enterFn L C n f fi args kd st = some out):Ev fun m => enterFn (c m) C n f fi args kd st = some out:=by
 unfold enterFn at hr ⊢
 split at hr
 ·cases hr
 ·rename_i e fr st1 h1
  exact Ev.and_mono (exec_cont h _ h1) (finishFn_cont h hr) fun m e1 e2 => by simp only [e1]; exact e2
theorem roundA_cont {c:Nat → CallF} {L:CallF} (h:Chain c L) {n:Option Nat} {l:Nat} {self:FuncId} {tmps:Nat → AV} {k:Nat} {params:List Tmp} {assign body:Code} {args:List AV} {st:St} {out:CR × St × Option AV}
  (hr:roundA L C n l self tmps k params assign body args st = some out):Ev fun m => roundA (c m) C n l self tmps k params assign body args st = some out:=by
 unfold roundA at hr ⊢
 split at hr
 ·rename_i hc
  simp only [if_pos hc]
  cases h1:exec L C n self (some l) assign ⟨setParams (params.zip args) k tmps,k,[],none⟩ st with
  | none => rw [h1] at hr; cases hr
  | some o1 =>
   obtain ⟨e,fr,st1⟩:=o1
   rw [h1] at hr
   cases e with
   | norm =>
    simp only at hr
    split at hr
    ·rename_i s t m' p a b pe d hl
     cases h2:exec L C n self (some l) body fr (st1.set l (.loop s t m' p a b .busy pe d)) with
     | none => rw [h2] at hr; cases hr
     | some o2 =>
      rw [h2] at hr
      exact Ev.and_mono (exec_cont h _ h1) (exec_cont h _ h2) fun m e1 e2 => by simp only [e1,hl,e2]; exact hr
    ·cases hr
   | _ => cases hr
 ·cases hr
end
end Go.AE

namespace Go.AE
open Go
section
variable {C:Ctx} {st:St}
theorem callN_up:∀ n,CLe (callN C (fun _ => none) n) (callN C (fun _ => none) (n + 1))
 | 0 => fun t a k s r h => by cases t <;> cases h
 | n + 1 => by
  have ih:=callN_up n
  intro t a k s r h
  cases t with
  | fn f =>
   simp only [callN] at h ⊢
   split at h
   ·exact h
   ·split at h
    ·cases h
    ·exact (enterFn_cont ih.chain h).const
  | yield l =>
   simp only [callN] at h ⊢
   split at h
   ·exact (roundA_cont ih.chain h).const
   ·cases h
theorem callN_le:∀ {n m:Nat},n ≤ m → CLe (callN C (fun _ => none) n) (callN C (fun _ => none) m):=by
 intro n m h
 induction h with
 | refl => exact fun _ _ _ _ _ h => h
 | step _ ih => exact fun t a k s r h => callN_up _ t a k s r (ih t a k s r h)
open Classical in
noncomputable def callW (C:Ctx):CallF:=fun t a k s => if h:∃ r,∃ n,callN C (fun _ => none) n t a k s = some r then some h.choose else none
theorem callW_iff {t:Tgt} {a:List AV} {k:Knd} {r:CR × St × Option AV}:callW C t a k st = some r ↔ ∃ n,callN C (fun _ => none) n t a k st = some r:=by
 unfold callW
 constructor
 ·intro h
  split at h
  ·rename_i hx
   cases h
   exact hx.choose_spec
  ·cases h
 ·rintro ⟨n,hn⟩
  have hx:∃ r,∃ n,callN C (fun _ => none) n t a k st = some r:=⟨r,n,hn⟩
  rw [dif_pos hx]
  obtain ⟨m,hm⟩:=hx.choose_spec
  have h1:=callN_le (Nat.le_max_left n m) _ _ _ _ _ hn
  have h2:=callN_le (Nat.le_max_right n m) _ _ _ _ _ hm
  rw [h1] at h2
  exact h2.symm
theorem callW_chain:Chain (callN C (fun _ => none)) (callW C):=⟨fun _ _ h => callN_le h,fun _ _ _ _ _ h => callW_iff.1 h⟩
theorem callW_ok (hC:CtxOk C) (hX:XOk C):CallsOk C (callW C):=fun tgt args kd st r h => by
 obtain ⟨n,hn⟩:=callW_iff.1 h
 exact callN_ok hC hX _ n tgt args kd st r hn
theorem Ev.get {p:Nat → Prop} (h:Ev p):∃ n,p n:=by obtain ⟨n,hn⟩:=h; exact ⟨n,hn n (Nat.le_refl _)⟩
theorem callW_X {f:FuncId} {args:List AV} {v:AV} {st':St} (h:C.X f args st = some (v,st')):callW C (.fn f) args .normal st = some (.ret v,st',none) :=
 callW_iff.2 ⟨1,by simp only [callN,h]⟩
theorem callW_fn {f:FuncId} {fi:FI} {args:List AV} {r:CR × St × Option AV} (hf:C.fn f = some fi) (hx:C.X f args st = none) (h:enterFn (callW C) C none f fi args .normal st = some r):callW C (.fn f) args .normal st = some r:=by
 obtain ⟨n,hn⟩:=(enterFn_cont callW_chain h).get
 exact callW_iff.2 ⟨n + 1,by simp only [callN,hx,hf]; exact hn⟩
theorem callW_deferred {f:FuncId} {fi:FI} {args:List AV} {pv:Option AV} {r:CR × St × Option AV} (hf:C.fn f = some fi) (h:enterFn (callW C) C none f fi args (.deferred pv) st = some r):callW C (.fn f) args (.deferred pv) st = some r:=by
 obtain ⟨n,hn⟩:=(enterFn_cont callW_chain h).get
 exact callW_iff.2 ⟨n + 1,by simp only [callN,hf]; exact hn⟩
theorem callW_yield {l:Nat} {args:List AV} {self:FuncId} {t:Nat → AV} {m:Nat} {p:List Tmp} {assign body:Code} {state:LoopState} {pe:Option Code} {d:Nat} {r:CR × St × Option AV} (ho:st.heap l = .loop self t m p assign body state pe d)
  (h:roundA (callW C) C none l self t m p assign body args st = some r):callW C (.yield l) args .normal st = some r:=by
 obtain ⟨n,hn⟩:=(roundA_cont callW_chain h).get
 exact callW_iff.2 ⟨n + 1,by simp only [callN,ho]; exact hn⟩
end
end Go.AE

namespace Go.AE
open Go
def isAggD:TypeDesc → Bool | .struct _ => true | .array _ _ => true | _ => false
def placesD (P:Program):TypeDesc → List (Nat × Nat)
 | .struct fs => fs.toList.map fun f => (f.offset,((P.info? f.type).map (·.size)).getD 0)
 | _ => []
def zeroOk (agg:Bool) (size:Nat):Value → Bool
 | .agg cs => agg && cs.size == size
 | .tuple _ => false
 | _ => !agg && size == 1
def fieldsIn (P:Program):TypeDesc → Bool
 | .struct fs => fs.toList.all fun f => (P.info? f.type).isSome
 | _ => true
def tyOf (P:Program) (t:Nat):Option TI :=
 match P.info? t,P.underlying t with
 | some i,some u => (match i.zero with
  | some z => if zeroOk (isAggD u) i.size z && fieldsIn P u then some ⟨u,i.size,i.bytes,isAggD u,z.cells.toList.map ofCell,placesD P u⟩ else none
  | none => none)
 | _,_ => none
def fnOf (P:Program) (f:Nat):Option FI :=
 match P.funcs[f]? with
 | some fn => (match fn.body with
  | some b => if (fn.name == "runtime.NumGoroutine") = true then none else some ⟨fn.ntmps, fn.results.toList, b⟩
  | none => none)
 | none => none
def ctxOf (P:Program) (X:FuncId → List AV → St → Option (AV × St)) (mu frz:FuncId → Bool):Ctx:=⟨P,tyOf P,fnOf P,fun _ => none,X,mu,frz⟩
theorem tyOf_spec {P:Program} {t:Nat} {ti:TI} (h:tyOf P t = some ti):∃ i u z,P.info? t = some i ∧ P.underlying t = some u ∧ i.zero = some z ∧ zeroOk (isAggD u) i.size z = true ∧ fieldsIn P u = true ∧
  ti = ⟨u,i.size,i.bytes,isAggD u,z.cells.toList.map ofCell,placesD P u⟩:=by
 unfold tyOf at h
 split at h
 ·rename_i i u hi hu
  split at h
  ·rename_i z hz
   split at h
   ·rename_i hc
    rw [Bool.and_eq_true] at hc
    cases h
    exact ⟨i,u,z,hi,hu,hz,hc.1,hc.2,rfl⟩
   ·cases h
  ·cases h
 ·cases h
theorem cells_ofCell {G:Gh} {w:World} (z:Value):VRs G w (z.cells.toList.map ofCell) z.cells.toList:=by
 have:=VRs.map (G:=G) (w:=w) (f:=ofCell) (g:=fun x => x) (l:=z.cells.toList) (fun x _ => ofCell_sound G w x)
 simpa using this
theorem ctxOf_ok {P:Program} {X:FuncId → List AV → St → Option (AV × St)} {mu frz:FuncId → Bool} (hm:P.follows .mixedOrders = true):CtxOk (ctxOf P X mu frz) where
 und:=fun t ti h => by obtain ⟨i,u,z,h1,h2,h3,h4,h5,rfl⟩:=tyOf_spec h; exact h2
 info:=fun t ti h => by
  obtain ⟨i,u,z,h1,h2,h3,h4,h5,rfl⟩:=tyOf_spec h
  refine ⟨i,h1,rfl,rfl,z,h3,?_,fun G w => cells_ofCell z⟩
  cases z <;> simp_all [zeroOk,Value.cells]
 agg:=fun t ti h => by obtain ⟨i,u,z,h1,h2,h3,h4,h5,rfl⟩:=tyOf_spec h; cases u <;> rfl
 places:=fun t ti h fs hfs => by
  obtain ⟨i,u,z,h1,h2,h3,h4,h5,rfl⟩:=tyOf_spec h
  simp only at hfs
  subst hfs
  refine ⟨rfl,fun f hf => ?_⟩
  simp only [fieldsIn,List.all_eq_true] at h5
  exact h5 f hf
 fn:=fun f fi h => by
  simp only [ctxOf,fnOf] at h
  split at h
  ·rename_i fn hfn
   split at h
   ·rename_i b hb
    split at h
    ·cases h
    ·rename_i hn
     cases h
     exact ⟨fn,hfn,hb,rfl,rfl,by simpa using hn⟩
   ·cases h
  ·cases h
 zv:=fun t ti h => by
  obtain ⟨i,u,z,h1,h2,h3,h4,h5,rfl⟩:=tyOf_spec h
  have key:∀ G w,VR G w (TI.zeroV ⟨u,i.size,i.bytes,isAggD u,z.cells.toList.map ofCell,placesD P u⟩) z ∧ (TI.zeroV ⟨u,i.size,i.bytes,isAggD u,z.cells.toList.map ofCell,placesD P u⟩).cells = z.cells.toList.map ofCell:=fun G w => by
   cases z with
   | agg cs =>
    simp only [zeroOk,Bool.and_eq_true] at h4
    simp only [TI.zeroV,h4.1,if_true,AV.cells,and_true]
    exact VR.mkAgg (by simpa [Value.cells] using cells_ofCell (G:=G) (w:=w) (.agg cs))
   | tuple cs => simp [zeroOk] at h4
   | _ =>
    simp only [zeroOk,Bool.and_eq_true,Bool.not_eq_true'] at h4
    simp only [TI.zeroV,h4.1,Value.cells,List.map_cons,List.map_nil,List.headD_cons,Bool.false_eq_true,if_false]
    exact ⟨ofCell_sound G w _,by
     have:∀ v:Value,(∀ cs,v ≠ .agg cs) → (ofCell v).cells = [ofCell v]:=fun v hv => by
      unfold ofCell
      split <;> rfl
     exact this _ (by simp)⟩
  refine ⟨(key ⟨fun _ => none,fun _ _ => False,0⟩ default).2,fun i' z' hi' hz' G w => ?_⟩
  have e1:i' = i:=Option.some.inj ((show P.info? t = some i' from hi').symm.trans h1)
  subst e1
  rw [h3] at hz'
  cases hz'
  exact (key G w).1
 mixed:=hm
end Go.AE

namespace Go.AE
open Go
mutual
def bk {H:Type}:DataW H → Nat
 | .lit (.string bytes) => bytes.length + 1
 | .lit _ => 1
 | .nil => 1
 | .ptr d => bk d + 1
 | .slice elems spare => bkAll elems + bkAll spare + 1
 | .agg parts => bkAll parts + 1
 | .iface _ d => bk d + 1
 | .map entries => bkEntries entries + 1
 | .held _ => 1
def bkAll {H:Type}:List (DataW H) → Nat
 | [] => 0
 | d :: r => bk d + bkAll r
def bkEntries {H:Type}:List (Lit × DataW H) → Nat
 | [] => 0
 | x :: r => bkEntry x + bkEntries r
def bkEntry {H:Type}:Lit × DataW H → Nat
 | (.string bytes,d) => bytes.length + bk d + 1
 | (_,d) => bk d + 1
end
theorem mapM_get {α β:Type} {f:α → Option β}:∀ {l:List α} {ys:List β},l.mapM f = some ys → ys.length = l.length ∧ ∀ (i:Nat) (x:α),l[i]? = some x → ∃ y,ys[i]? = some y ∧ f x = some y
 | [],ys,h => by simp at h; subst h; simp
 | x :: l,ys,h => by
  rw [List.mapM_cons] at h
  cases hf:f x with
  | none => rw [hf] at h; cases h
  | some y =>
   rw [hf] at h
   cases hr:l.mapM f with
   | none => simp [hr] at h
   | some zs =>
    simp [hr] at h
    subst h
    obtain ⟨h1,h2⟩:=mapM_get hr
    refine ⟨by simp [h1],fun i x' hi => ?_⟩
    cases i with
    | zero => simp at hi; subst hi; exact ⟨y,rfl,hf⟩
    | succ i => simpa using h2 i x' (by simpa using hi)
def Gin (w:World):Gh:=⟨fun _ => none,fun b _ => b < w.heap.size,w.heap.size⟩
def st00:St:=⟨fun _ => .dead,0,[]⟩
theorem rel_in {C:Ctx} {w:World} (hg:∀ g cs,C.glob g = some cs → GOk (Gin w) w g cs):Rel C (Gin w) st00 w where
 obj:=fun l L h => by cases h
 sep:=fun l1 l2 L1 L2 h => by cases h
 kold:=fun b o h => h
 glob:=hg
 low:=Nat.le_refl _
section
variable {H:Type} {enc:TypeId × Value → H} {P:Program} {w:World} {B:Nat}
def Opn (enc:TypeId × Value → H) (P:Program) (w:World) (B fuel:Nat) (t:TypeId) (E:List AV → Prop):Prop :=
 ∀ cs d ps,DataW.trod enc P w 0 (fun _ => true) true fuel t cs = some (d,ps) → bk d ≤ B → ∃ xs,E xs ∧ VRs (Gin w) w xs cs
theorem Opn.mono {fuel:Nat} {t:TypeId} {E E':List AV → Prop} (h:Opn enc P w B fuel t E) (k:∀ xs,E xs → E' xs):Opn enc P w B fuel t E':=fun cs d ps hd hb => by
 obtain ⟨xs,h1,h2⟩:=h cs d ps hd hb
 exact ⟨xs,k xs h1,h2⟩
theorem Opn.zero {t:TypeId} {E:List AV → Prop}:Opn enc P w B 0 t E:=fun cs d ps hd => by simp [DataW.trod] at hd
def elemOf (agg:Bool) (xs:List AV):AV:=if agg then .agg xs else xs.headD .any
def shapeOk (agg:Bool) (sz:Nat) (xs:List AV):Prop:=xs.length = sz ∧ (agg = true ∨ ∃ x,xs = [x] ∧ x.noAgg = true)
theorem elemOf_cells {agg:Bool} {sz:Nat} {xs:List AV} (h:shapeOk agg sz xs):(elemOf agg xs).cells = xs:=by
 rcases h with ⟨_,h | ⟨x,rfl,h⟩⟩
 ·subst h; rfl
 ·cases agg with
  | true => rfl
  | false => cases x <;> first | rfl | cases h
theorem flat_elemOf {agg:Bool} {sz:Nat}:∀ {xss:List (List AV)},(∀ xs ∈ xss,shapeOk agg sz xs) → flat (xss.map (elemOf agg)) = xss.flatten
 | [],_ => rfl
 | xs :: r,h => by
  have ih:=flat_elemOf (xss:=r) fun ys hy => h ys (by simp [hy])
  simp only [flat] at ih ⊢
  simp [elemOf_cells (h xs (by simp)),ih]
theorem cells?_get {base:Nat} {a:Addr} {n:Nat} {cs:List Value} (h:w.cells? base a n = some cs):cs.length = n ∧ ∀ i,i < n → w.cell? (a.add i) = some (cs.getD i undef):=by
 unfold World.cells? at h
 split at h
 ·obtain ⟨h1,h2⟩:=mapM_get h
  refine ⟨by simpa using h1,fun i hi => ?_⟩
  obtain ⟨y,h3,h4⟩:=h2 i i (by simp [hi])
  rw [List.getD_eq_getElem?_getD,h3]
  exact h4
 ·cases h
end
end Go.AE

namespace Go.AE
open Go
theorem law_calls {C:Ctx} (hC:CtxOk C) (hX:XOk C) {W:World} (hg:∀ g cs,C.glob g = some cs → GOk (Gin W) W g cs) {f:FuncId} {fi:FI} (hf:C.fn f = some fi) {args:List AV} {vals:List Value} (hv:VRs (Gin W) W args vals) {b:Bool} {st':St} {pv:Option AV}
  (h:callW C (.fn f) args .normal st00 = some (.ret (.bool b),st',pv)):Calls C.P f vals.toArray W fun e W' => e = .returned (.bool b) ∧ RowKit.Below W.heap.size W W':=by
 have hok:=callW_ok hC hX _ _ _ _ _ h (Gin W) W vals (rel_in hg) hv
 have fin:∀ e W',(∃ G' ls,Ok C (Gin W) st00 W ls G' st' W' ∧ st'.log = ls ++ st00.log ∧ EndRel G' W' (.ret (.bool b)) e) → e = .returned (.bool b) ∧ RowKit.Below W.heap.size W W':=fun e W' ⟨G',ls,h1,h2,h3⟩ => by
  refine ⟨?_,⟨h1.os,h1.tape,h1.output,h1.size,fun k hk => h1.frame k hk fun ⟨l,L,_,hl,_⟩ => by cases hl⟩⟩
  cases e with
  | returned v => cases h3; rfl
  | panicked c => exact h3.elim
  | outgrown => exact h3.elim
 rcases hok with ⟨fn,h1,h2,h3,h4⟩ | ⟨v,w',h1,h2⟩
 ·exact h4.mono fun e W' hh => fin e W' hh
 ·exfalso
  have:=(callFunc_enter (w:=W) hC (by rw [hf]; rfl) vals.toArray).1
  rw [this] at h1
  cases h1
section
variable {P:Program} {w:World} {base:Nat} {G:Gh}
theorem arg_agg {t:TypeId} {v:Value} (hu:∃ fs,P.underlying t = some (.struct fs)) (h:Value.okWide P w .any base t v) {xs:List AV} (hx:VRs G w xs v.cells.toList):VR G w (.agg xs) v:=by
 obtain ⟨fs,hu⟩:=hu
 simp only [Value.okWide,hu] at h
 obtain ⟨cs,rfl,_⟩:=h
 exact VR.mkAgg (by simpa [Value.cells] using hx)
end
end Go.AE

namespace Go.AE
open Go
structure RO where
 d:Option Tmp
 op:Op
 g:Option (Option Tmp × Bool)
def resolve (ops:Array Oper) (o:Oper):RO:=⟨o.dst,o.op,o.guard.map fun x => ((ops[x.1]?).bind (·.dst),x.2)⟩
def RO.oper (o:RO):Oper:={ dst:=o.d,op:=o.op,type:=0,pos:="",after:=#[],guard:=none }
inductive RC where
 | skip
 | ops (l:List RO)
 | draw (ops:Array Oper)
 | seq (a b:RC)
 | cond (c:Operand) (a b:RC)
 | block (id:Nat) (b:RC)
 | loop (b:RC)
 | rangeFunc (f:Operand) (params:List Tmp) (assign body:Code) (ra rb:RC)
 | exit (id:Nat)
 | goto (l:Nat)
 | ret
 | bad
def resolveC:Code → RC
 | .skip => .skip
 | .label _ => .skip
 | .region _ ops draw => if draw then .draw ops else .ops (ops.toList.map (resolve ops))
 | .seq a b => .seq (resolveC a) (resolveC b)
 | .cond c a b => .cond c (resolveC a) (resolveC b)
 | .block id b => .block id (resolveC b)
 | .loop b => .loop (resolveC b)
 | .rangeFunc f params assign body => .rangeFunc f params.toList assign body (resolveC assign) (resolveC body)
 | .exit id => .exit id
 | .goto l => .goto l
 | .ret => .ret
 | .scope _ => .bad
 | .refuse _ => .bad
def guardA (fr:Fr):Option (Option Tmp × Bool) → Option Bool
 | none => some true
 | some (some d,w) => (match fr.tmps d with | .bool b => some (b == w) | .any => none | _ => some false)
 | some (none,_) => some false
def runR (call:CallF) (C:Ctx) (mu:Bool) (ro:Bool):List RO → Fr → St → Option Out
 | [],fr,st => some (.norm,fr,st)
 | o :: rest,fr,st => (guardA fr o.g).bind fun b =>
   if b then (match runOp call C mu ro o.oper fr st with
    | some (.norm,fr,st) => runR call C mu ro rest fr st
    | r => r)
   else runR call C mu ro rest (fr.put o.d undefA) st
theorem guardA_eq {ops:Array Oper} {o:Oper} {fr:Fr}:wantedA ops fr o = guardA fr (resolve ops o).g:=by
 unfold wantedA resolve
 cases o.guard with
 | none => rfl
 | some jw =>
  obtain ⟨j,w⟩:=jw
  simp only [Option.map_some]
  cases (ops[j]?).bind (·.dst) with
  | none => rfl
  | some d => simp only [guardA]; cases fr.tmps d <;> rfl
theorem runOp_oper {call:CallF} {C:Ctx} {mu ro:Bool} {ops:Array Oper} {o:Oper} {fr:Fr} {st:St}:runOp call C mu ro o fr st = runOp call C mu ro (resolve ops o).oper fr st:=rfl
theorem runOps_eq {call:CallF} {C:Ctx} {mu ro:Bool} {ops:Array Oper}:∀ {l:List Oper} {fr:Fr} {st:St},runOps call C mu ro ops l fr st = runR call C mu ro (l.map (resolve ops)) fr st
 | [],_,_ => rfl
 | o :: l,fr,st => by
  simp only [runOps,List.map_cons,runR,guardA_eq (ops:=ops) (o:=o)]
  cases hg:guardA fr (resolve ops o).g with
  | none => rfl
  | some b =>
   cases b with
   | false => simp only [Option.bind_some,Bool.false_eq_true,if_false]; exact runOps_eq
   | true =>
    simp only [Option.bind_some,if_true,← runOp_oper]
    cases runOp call C mu ro o fr st with
    | none => rfl
    | some o1 =>
     obtain ⟨e,fr1,st1⟩:=o1
     cases e with
     | norm => exact runOps_eq
     | _ => rfl
noncomputable def execR (call:CallF) (C:Ctx) (n:Option Nat) (self:FuncId) (ro:Option Nat):RC → Fr → St → Option Out
 | .skip,fr,st => some (.norm,fr,st)
 | .ops l,fr,st => runR call C (C.mu self) ro.isSome l fr st
 | .draw ops,fr,st => region call C (C.mu self) ro.isSome ops true fr st
 | .seq a b,fr,st => (match execR call C n self ro a fr st with
  | some (.norm,fr,st) => execR call C n self ro b fr st
  | r => r)
 | .cond c a b,fr,st => (match oval C fr c with
  | .bool x => if x then execR call C n self ro a fr st else execR call C n self ro b fr st
  | _ => none)
 | .block id b,fr,st => (match execR call C n self ro b fr st with
  | some (.exit i,fr,st) => if i = id then some (.norm,fr,st) else some (.exit i,fr,st)
  | r => r)
 | .loop b,fr,st => iterO (execR call C n self ro b) n fr st
 | .rangeFunc f params assign body _ _,fr,st => (match oval C fr f with
  | .func (.func g) first captured => if (C.fn g).isNone then none else (match ro with
   | none => rangeLoop call self g first captured params assign body st.next { fr with defs:=⟨none,st.next,[]⟩ :: fr.defs } (st.push .dfr)
   | some l0 => (match st.heap l0 with
    | .loop _ _ _ _ _ _ _ _ d => rangeLoop call self g first captured params assign body d fr st
    | _ => none))
  | _ => none)
 | .exit id,fr,st => some (.exit id,fr,st)
 | .goto l,fr,st => some (.goto l,fr,st)
 | .ret,fr,st => some (.ret,fr,st)
 | .bad,_,_ => none
theorem exec_eq (call:CallF) (C:Ctx) (n:Option Nat) (self:FuncId) (ro:Option Nat):∀ c:Code,exec call C n self ro c = execR call C n self ro (resolveC c):=by
 intro c
 induction c with
 | region id ops draw =>
  funext fr st
  cases draw with
  | true => rfl
  | false => simp only [exec,resolveC,region,Bool.false_eq_true,if_false,execR]; exact runOps_eq
 | seq a b iha ihb => funext fr st; simp only [exec,resolveC,execR,iha,ihb]; rfl
 | cond x a b iha ihb => funext fr st; simp only [exec,resolveC,execR,iha,ihb]; rfl
 | block id a iha => funext fr st; simp only [exec,resolveC,execR,iha]; rfl
 | loop a iha => funext fr st; simp only [exec,resolveC,execR,iha]
 | rangeFunc f params assign body _ _ => rfl
 | _ => rfl
end Go.AE

namespace Go.AE
open Go
inductive XO where
 | t (n:Nat)
 | c (v:AV)
def XO.val (fr:Fr):XO → AV | .t n => fr.tmps n | .c v => v
def compO (C:Ctx):Operand → XO
 | .tmp t => .t t
 | .const v => .c (ofV v)
 | .global g => .c (match C.glob g with | some cs => .cptr cs | none => .any)
 | .func f => .c (.func (.func f) [] [])
theorem compO_val {C:Ctx} {fr:Fr} (x:Operand):(compO C x).val fr = oval C fr x:=by cases x <;> rfl
inductive XOp where
 | mv (x:XO)
 | pick (c a b:XO)
 | alloc (e:TypeId) (zero:List AV)
 | box (e:TypeId) (x:XO)
 | build (zero:List AV) (places:List (Nat × Nat)) (parts:List (Nat × XO))
 | buildS (mu:Bool) (e:TypeId) (size len:Nat) (parts:List (Nat × XO))
 | load (agg:Bool) (size:Nat) (a:XO)
 | store (size:Nat) (a x:XO)
 | binI (op:BinOp) (t:TypeId) (xo yo:Operand) (x y:XO)
 | binS (op:BinOp) (t:TypeId) (xo yo:Operand) (x y:XO)
 | un (op:UnOp) (x:XO)
 | fieldAddr (off:Nat) (x:XO)
 | field (off:Nat) (agg:Bool) (size:Nat) (x:XO)
 | idxS (size:Nat) (x i:XO)
 | idxStr (x i:XO)
 | extract (x:XO) (i:Nat)
 | lenS (x:XO)
 | lenStr (x:XO)
 | app (mu:Bool) (e:TypeId) (ei:TI) (s x:XO)
 | mkFunc (f:FuncId) (first captured:List XO)
 | call (f:XO) (args:List XO)
 | gen (o:Oper)
def partX (agg:Bool) (size:Nat) (cs:List AV):Option AV :=
 if agg then (if (cs.take size).length = size then some (.agg (cs.take size)) else none) else cs.head?
def ldX (st:St) (agg:Bool) (size:Nat):AV → Option AV
 | .ptr l off => (match st.heap l with
  | .mem _ cells _ _ => partX agg size (cells.drop off)
  | _ => none)
 | .cptr cells => partX agg size cells
 | _ => none
def addrX (off:Nat):AV → Option AV
 | .ptr l o => some (.ptr l (o + off))
 | .cptr cells => some (.cptr (cells.drop off))
 | _ => none
def idxX (size:Nat) (x:AV) (i:Nat):Option AV :=
 match x with
 | .slice _ es => (match es[i]? with
  | some v => if v.cells.length = size then some (.cptr v.cells) else none
  | none => none)
 | .row l off len _ => if i < len then some (.ptr l (off + i * size)) else none
 | _ => none
def lenX:AV → Option AV
 | .slice _ es => some (goI es.length)
 | .row _ _ len _ => some (goI len)
 | _ => none
def partsX (fr:Fr) (ps:List (Nat × XO)):List (Nat × AV):=ps.map fun p => (p.1,p.2.val fr)
def binIX (C:Ctx) (op:BinOp) (t:TypeId) (xo yo:Operand) (x y:AV):Option AV :=
 match x,y with
 | .int k a,.int k' b => (match op with
  | .shl | .shr => shiftOp op k a b
  | _ => if k = k' then intOp op k a b else none)
 | x,y => binA C op t xo yo x y
def binSX (C:Ctx) (op:BinOp) (t:TypeId) (xo yo:Operand) (x y:AV):Option AV :=
 match x,y with
 | .str a,.str b => strOp op a b
 | x,y => binA C op t xo yo x y
def opX (C:Ctx) (mu ro:Bool) (fr:Fr) (st:St):XOp → Option OPR
 | .mv x => some (.val (x.val fr) st)
 | .pick c a b => (match c.val fr with | .bool x => some (.val (if x then a.val fr else b.val fr) st) | _ => none)
 | .alloc e zero => some (.val (.ptr st.next 0) (st.push (.mem e zero true 0)))
 | .box e x => if (x.val fr).isAny then none else some (.val (.ptr st.next 0) (st.push (.mem e (x.val fr).cells true 0)))
 | .build zero places parts => ov st ((fillA (places[·]?) zero (partsX fr parts)).map .agg)
 | .buildS mu e size len parts => if (partsX fr parts).length = len ∧ len * size ≤ 1048576 then (match elemsA size 0 (partsX fr parts) with
  | some es => if mu then (if 0 < size then some (.val (.row st.next 0 len none) (st.push (.mem e (flat es) true 0))) else none) else some (.val (.slice .exact es) st)
  | none => none) else none
 | .load agg size a => ov st (ldX st agg size (a.val fr))
 | .store size a x => (match a.val fr with
  | .ptr l off => if (x.val fr).cells.length = size then (sto st l off (x.val fr).cells).map fun st => .val undefA st else none
  | _ => none)
 | .binI op t xo yo x y => ov st (binIX C op t xo yo (x.val fr) (y.val fr))
 | .binS op t xo yo x y => ov st (binSX C op t xo yo (x.val fr) (y.val fr))
 | .un op x => ov st (unA op (x.val fr))
 | .fieldAddr off x => ov st (addrX off (x.val fr))
 | .field off agg size x => (match x.val fr with | .agg cs => ov st (partX agg size (cs.drop off)) | _ => none)
 | .idxS size x i => (match natOf (i.val fr) with | some i => ov st (idxX size (x.val fr) i) | none => none)
 | .idxStr x i => (match natOf (i.val fr),x.val fr with | some i,.str s => ov st ((s[i]?).map fun b => .int .u8 (.ofNat b)) | _,_ => none)
 | .extract x i => (match x.val fr with | .tuple vs => ov st vs[i]? | _ => none)
 | .lenS x => ov st (lenX (x.val fr))
 | .lenStr x => (match x.val fr with | .str s => some (.val (goI s.length) st) | _ => none)
 | .app mu e ei s x => ovs ((elemsOf st ei (x.val fr)).bind (appendA mu st e ei (s.val fr)))
 | .mkFunc f first captured => some (.val (.func (.func f) (first.map (XO.val fr)) (captured.map (XO.val fr))) st)
 | .call _ _ => none
 | .gen o => opA C mu ro fr st o
def calleeX (fr:Fr) (f:XO) (args:List XO):Option (Tgt × List AV) :=
 match f.val fr with
 | .func (.func g) first captured => some (.fn g,first ++ args.map (XO.val fr) ++ captured)
 | .func (.yield l) [] [] => some (.yield l,args.map (XO.val fr))
 | _ => none
def callX (call:CallF) (C:Ctx) (d:Option Tmp) (fr:Fr) (st:St):XOp → Option Out
 | .call f args => (match calleeX fr f args with
  | some (tgt,args) => (match call tgt args .normal st with
   | some (.ret v,st,_) => some (.norm,fr.put d v,st)
   | some (.pan v,st,_) => some (.pan v,fr,st)
   | none => none)
  | none => none)
 | .gen o => callA call C o fr st
 | _ => none
def runOpX (call:CallF) (C:Ctx) (mu:Bool) (ro:Bool) (d:Option Tmp) (o:XOp) (fr:Fr) (st:St):Option Out :=
 match opX C mu ro fr st o with
 | some (.val v st) => some (.norm,fr.put d v,st)
 | some (.pan v st) => some (.pan v,fr,st)
 | some (.dfr x st) => some (.norm,Fr.put { fr with defs:=x :: fr.defs } d undefA,st)
 | some .rcv => (match fr.pv with | some v => some (.norm,Fr.put { fr with pv:=none } d v,st) | none => none)
 | none => callX call C d fr st o
def compCall (C:Ctx) (mu:Bool) (o:Oper) (c:Call):XOp :=
 match c.callee,c.args.toList,c.argTypes.toList with
 | .value f,args,_ => .call (compO C f) (args.map (compO C))
 | .builtin .len,[x],t :: _ => (match C.ty t with
  | some { und:=.slice _,.. } => .lenS (compO C x)
  | some { und:=.string,.. } => .lenStr (compO C x)
  | _ => .gen o)
 | .builtin .append,[s,x],t :: u :: _ => (match elemTI C t,C.ty u with
  | some (e,ei),some { und:=.slice _,.. } => .app mu e ei (compO C s) (compO C x)
  | some (e,ei),some { und:=.string,.. } => .app mu e ei (compO C s) (compO C x)
  | _,_ => .gen o)
 | _,_,_ => .gen o
def compOp (C:Ctx) (mu:Bool) (o:Oper):XOp :=
 match o.op with
 | .move x | .assign x => .mv (compO C x)
 | .pick c a b => .pick (compO C c) (compO C a) (compO C b)
 | .alloc e => (match C.ty e with | some ei => .alloc e ei.zero | none => .gen o)
 | .box e x => .box e (compO C x)
 | .build t parts => (match C.ty t with
  | some { und:=.struct _,zero:=z,places:=pl,.. } => .build z pl (parts.toList.map fun p => (p.1,compO C p.2))
  | _ => .gen o)
 | .buildSlice t len parts => (match elemTI C t with
  | some (e,ei) => .buildS mu e ei.size len (parts.toList.map fun p => (p.1,compO C p.2))
  | none => .gen o)
 | .load t a => (match C.ty t with | some ti => .load ti.isAgg ti.size (compO C a) | none => .gen o)
 | .store t a x => (match C.ty t with | some ti => .store ti.size (compO C a) (compO C x) | none => .gen o)
 | .binOp op t x y _ => (match C.ty t with
  | some { und:=.int _,.. } => .binI op t x y (compO C x) (compO C y)
  | some { und:=.string,.. } => .binS op t x y (compO C x) (compO C y)
  | _ => .gen o)
 | .unOp op _ x => .un op (compO C x)
 | .fieldAddr t x f => (match fieldPl C t f with
  | some (off,fi) => if fi.size = 0 then .gen o else .fieldAddr off (compO C x)
  | none => .gen o)
 | .field t x f => (match fieldPl C t f with
  | some (off,fi) => .field off fi.isAgg fi.size (compO C x)
  | none => .gen o)
 | .indexAddr t x i => (match elemTI C t with
  | some (_,ei) => .idxS ei.size (compO C x) (compO C i)
  | none => .gen o)
 | .index t x i => (match C.ty t with
  | some { und:=.string,.. } => .idxStr (compO C x) (compO C i)
  | _ => .gen o)
 | .extract x i => .extract (compO C x) i
 | .makeFunc (.func f) first captured => .mkFunc f (first.toList.map (compO C)) (captured.toList.map (compO C))
 | .call c => compCall C mu o c
 | _ => .gen o
section
variable {C:Ctx} {mu ro:Bool} {fr:Fr} {st:St} {call:CallF}
theorem parts_eq (ps:Array (Nat × Operand)):partsX fr (ps.toList.map fun p => (p.1,compO C p.2)) = ps.toList.map fun p => (p.1,oval C fr p.2):=by
 simp only [partsX,List.map_map]
 exact List.map_congr_left fun p _ => by simp [compO_val]
theorem vals_eq (xs:Array Operand):(xs.toList.map (compO C)).map (XO.val fr) = xs.toList.map (oval C fr):=by
 rw [List.map_map]
 exact List.map_congr_left fun p _ => by simp [compO_val]
theorem elemTI_some {t e:TypeId} {ei:TI} (h:elemTI C t = some (e,ei)):∃ ti,C.ty t = some ti ∧ ti.und = .slice e ∧ C.ty e = some ei:=by
 unfold elemTI at h
 split at h
 ·rename_i e' a b c d f heq
  cases he:C.ty e' with
  | none => rw [he] at h; cases h
  | some x => rw [he] at h; cases h; exact ⟨_,heq,rfl,he⟩
 ·cases h
theorem compOp_eq (o:Oper):opX C mu ro fr st (compOp C mu o) = opA C mu ro fr st o ∧ callX call C o.dst fr st (compOp C mu o) = callA call C o fr st:=by
 obtain ⟨dst,op,ty,pos,after,guard⟩:=o
 have gen:∀ o:Oper,opX C mu ro fr st (.gen o) = opA C mu ro fr st o ∧ callX call C o.dst fr st (.gen o) = callA call C o fr st:=fun o => ⟨rfl,rfl⟩
 cases op <;> simp only [compOp] <;> first | exact gen _ | skip
 case move x => exact ⟨by simp [opX,opA,compO_val],rfl⟩
 case assign x => exact ⟨by simp [opX,opA,compO_val],rfl⟩
 case pick c a b => exact ⟨by simp only [opX,opA,compO_val]; rfl,rfl⟩
 case alloc e =>
  split
  ·rename_i ei he; exact ⟨by simp [opX,opA,he],rfl⟩
  ·exact gen _
 case box e x => exact ⟨by simp [opX,opA,compO_val],rfl⟩
 case build t ps =>
  split
  ·rename_i he; exact ⟨by simp only [opX,opA,buildA,parts_eq,he],rfl⟩
  ·exact gen _
 case buildSlice t len ps =>
  split
  ·rename_i e ei he
   refine ⟨?_,rfl⟩
   simp only [opX,opA,buildSliceA,parts_eq,he]
   generalize (ps.toList.map fun p => (p.1,oval C fr p.2)) = q
   split
   ·cases elemsA ei.size 0 q with
    | none => rfl
    | some es =>
     simp only
     split
     ·split <;> rfl
     ·rfl
   ·rfl
  ·exact gen _
 case load t a =>
  split
  ·rename_i ti he
   refine ⟨?_,rfl⟩
   simp only [opX,opA,ld,he,compO_val]
   cases oval C fr a <;> rfl
  ·exact gen _
 case store t a x =>
  split
  ·rename_i ti he
   refine ⟨?_,rfl⟩
   simp only [opX,opA,sizeIs,he,compO_val,Option.map_some]
   cases oval C fr a <;> rfl
  ·exact gen _
 case binOp op t x y yt =>
  split
  ·refine ⟨?_,rfl⟩
   simp only [opX,opA,compO_val]
   congr 1
   unfold binIX
   split
   ·rename_i h1 h2; rw [h1,h2]; rfl
   ·rfl
  ·refine ⟨?_,rfl⟩
   simp only [opX,opA,compO_val]
   congr 1
   unfold binSX
   split
   ·rename_i h1 h2; rw [h1,h2]; rfl
   ·rfl
  ·exact gen _
 case unOp op t x => exact ⟨by simp [opX,opA,compO_val],rfl⟩
 case fieldAddr t x f =>
  split
  ·rename_i off fi he
   split
   ·exact gen _
   ·rename_i hz
    refine ⟨?_,rfl⟩
    simp only [opX,opA,fieldAddrA,he,compO_val,if_neg hz]
    cases oval C fr x <;> rfl
  ·exact gen _
 case field t x f =>
  split
  ·rename_i off fi he
   refine ⟨?_,rfl⟩
   simp only [opX,opA,fieldA,he,compO_val]
   cases oval C fr x <;> rfl
  ·exact gen _
 case indexAddr t x i =>
  split
  ·rename_i e ei he
   obtain ⟨ti,h1,h2,h3⟩:=elemTI_some he
   obtain ⟨u,y1,y2,y3,y4,y5⟩:=ti
   simp only at h2
   subst h2
   refine ⟨?_,rfl⟩
   simp only [opX,opA,compO_val,indexAddrA,h1,sizeIs,h3,Option.map_some]
   cases natOf (oval C fr i) with
   | none => rfl
   | some n => cases oval C fr x <;> rfl
  ·exact gen _
 case index t x i =>
  split
  ·rename_i he
   refine ⟨?_,rfl⟩
   simp only [opX,opA,compO_val,indexA,he]
   cases natOf (oval C fr i) with
   | none => rfl
   | some n => cases oval C fr x <;> rfl
  ·exact gen _
 case extract x i => exact ⟨by simp only [opX,opA,compO_val]; cases oval C fr x <;> rfl,rfl⟩
 case makeFunc fn first captured =>
  cases fn <;> simp only [] <;> first | exact gen _ | skip
  exact ⟨by simp only [opX,opA,vals_eq],rfl⟩
 case call c =>
  unfold compCall
  split
  ·rename_i _ _ _ f h1
   refine ⟨?_,?_⟩
   ·simp only [opX,opA,h1]
   ·simp only [callX,callA,calleeX,calleeA,compO_val,h1,vals_eq]
    rfl
  ·rename_i x t ts h1 h2 h3
   split
   ·rename_i he
    refine ⟨?_,by simp only [callX,callA,calleeA,h1]⟩
    simp only [opX,opA,builtinA,h1,h2,h3,List.map_cons,List.map_nil,lenA,he,compO_val]
    cases oval C fr x <;> rfl
   ·rename_i he
    refine ⟨?_,by simp only [callX,callA,calleeA,h1]⟩
    simp only [opX,opA,builtinA,h1,h2,h3,List.map_cons,List.map_nil,lenA,he,compO_val]
    cases oval C fr x <;> rfl
   ·exact gen _
  ·rename_i s x t u ts h1 h2 h3
   split
   ·rename_i k1 k2
    refine ⟨?_,by simp only [callX,callA,calleeA,h1]⟩
    simp only [opX,opA,builtinA,h1,h2,h3,List.map_cons,List.map_nil,builtinAppend,k1,k2,compO_val]
   ·rename_i k1 k2
    refine ⟨?_,by simp only [callX,callA,calleeA,h1]⟩
    simp only [opX,opA,builtinA,h1,h2,h3,List.map_cons,List.map_nil,builtinAppend,k1,k2,compO_val]
   ·exact gen _
  ·exact gen _
theorem runOpX_eq (o:Oper):runOpX call C mu ro o.dst (compOp C mu o) fr st = runOp call C mu ro o fr st:=by
 unfold runOpX runOp
 rw [(compOp_eq (ro:=ro) (call:=call) o).1,(compOp_eq (mu:=mu) (ro:=ro) o).2]
 rfl
end
end Go.AE
