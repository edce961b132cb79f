/- The examples of the law hold, by evaluation. -/
import Derived.Test.YtdlahjpoiichkaaGreatDoorS9
import Derived.Laws.Externs
import Derived.Lib.Bytealg
set_option linter.unusedVariables false
set_option linter.unusedSimpArgs false
set_option linter.unusedSectionVars false
namespace Go.Proofs.L06
open Go Go.AE
theorem ext_ok {C : Ctx} {f : FuncId} {fn : Func} {e : Array Value → Go.Sem Value} (hf : C.P.funcs[f]? = some fn) (hname : (fn.name == "runtime.NumGoroutine") = false) (hb : fn.body.isNone = true) (hn : Extern.findNext fn = none) (he : Extern.find fn = some e) {args : List AV} {v : AV}
  (hrun:∀ G w vals,VRs G w args vals → ∃ u,(e vals.toArray).run C.P w = .ok u w ∧ VR G w v u) (st:St):CallOk C (.fn f) args .normal st (.ret v,st,none):=by
 intro G w vals hr hv
 obtain ⟨u,h1,h2⟩:=hrun G w vals hv
 refine .inr ⟨u,w,?_,G,[],Ok.refl hr,rfl,h2⟩
 rw [run_callFunc_extern hf hname hb hn he,h1]
 rfl
theorem f243:Tryz.prog.funcs[243]? = some Tryz.f243:=by kernel_rfl
theorem f399:Tryz.prog.funcs[399]? = some Tryz.f399:=by kernel_rfl
theorem f304:Tryz.prog.funcs[304]? = some Tryz.f304:=by kernel_rfl
theorem e243:Extern.find Tryz.f243 = some Extern.BytealgCompare.compare:=by kernel_rfl
theorem e399:Extern.find Tryz.f399 = some Extern.BytealgIndexByte.indexByte:=by kernel_rfl
theorem e304:Extern.find Tryz.f304 = some Extern.AbiNoEscape.same:=by kernel_rfl
theorem n243:Extern.findNext Tryz.f243 = none:=by kernel_rfl
theorem n399:Extern.findNext Tryz.f399 = none:=by kernel_rfl
theorem n304:Extern.findNext Tryz.f304 = none:=by kernel_rfl
theorem cmpS_eq:∀ a b:List UInt8,cmpS (a.map (·.toNat)) (b.map (·.toNat)) = Lib.compareBytes a b
 | [],[] => rfl
 | [],_ :: _ => by simp [cmpS,Lib.compareBytes,strLt]
 | _ :: _,[] => by simp [cmpS,Lib.compareBytes,strLt]
 | x :: a,y :: b => by
  have ih:=cmpS_eq a b
  unfold Lib.compareBytes
  rw [← ih]
  unfold cmpS
  simp only [List.map_cons,strLt,List.cons_beq_cons]
  by_cases h1:x.toNat < y.toNat
  ·have e1:x < y:=UInt8.lt_iff_toNat_lt.2 h1
   have e2:(x.toNat == y.toNat) = false:=by rw [beq_eq_false_iff_ne]; omega
   simp [h1,e1,e2]
  ·have e1:¬ x < y:=fun h => h1 (UInt8.lt_iff_toNat_lt.1 h)
   by_cases h2:y.toNat < x.toNat
   ·have e3:y < x:=UInt8.lt_iff_toNat_lt.2 h2
    have e2:(x.toNat == y.toNat) = false:=by rw [beq_eq_false_iff_ne]; omega
    simp [h1,e1,e2,e3]
   ·have e3:¬ y < x:=fun h => h2 (UInt8.lt_iff_toNat_lt.1 h)
    have e2:(x.toNat == y.toNat) = true:=by rw [beq_iff_eq]; omega
    simp [h1,e1,e2,e3]
theorem firstL:∀ (l:List UInt8) (c:UInt8),(match (List.range l.length).find? fun i => l.getD i 0 == c with | some i => (i:Int) | none => -1) = (match (l.map (·.toNat)).findIdx? (fun b:Nat => decide ((b:Int) = (c.toNat:Int))) with | some i => (i:Int) | none => -1):=by
 have key:∀ (l:List UInt8) (c:UInt8),((List.range l.length).find? fun i => l.getD i 0 == c) = (l.map (·.toNat)).findIdx? (fun b:Nat => decide ((b:Int) = (c.toNat:Int))):=fun l c => by
  induction l with
  | nil => rfl
  | cons x l ih =>
   rw [List.length_cons,Lib.find_range_succ,List.map_cons,List.findIdx?_cons]
   simp only [List.getD_cons_zero,List.getD_cons_succ]
   rw [ih]
   by_cases h:x = c
   ·subst h; simp
   ·have h2:(x == c) = false:=by simpa using h
    have h3:decide ((x.toNat:Int) = (c.toNat:Int)) = false:=by
     rw [decide_eq_false_iff_not]
     intro e
     exact h (UInt8.toNat_inj.1 (by omega))
    simp only [h2,h3,Bool.false_eq_true,if_false]
 intro l c
 rw [key]
theorem first_eq (s:ByteArray) (c:Int) (h0:0 ≤ c) (h1:c < 256):firstIdx s c.toNat.toUInt8 = idxB (s.data.toList.map (·.toNat)) c:=by
 obtain ⟨⟨l⟩⟩:=s
 have h2:((c.toNat.toUInt8).toNat:Int) = c:=by
  have:(c.toNat.toUInt8).toNat = c.toNat % 256:=UInt8.toNat_ofNat'
  rw [this]; omega
 have h3:=firstL l c.toNat.toUInt8
 rw [h2] at h3
 unfold firstIdx idxB
 simp only [Lib.get!_eq]
 exact h3
def X0:XF:=fun f args st => match args with
 | [.str a,.str b] => if Nat.beq f 243 then some (.int .i64 (cmpS a b),st) else none
 | [.str s,.int .u8 c] => if Nat.beq f 399 && (decide (0 ≤ c) && decide (c < 256)) then some (.int .i64 (idxB s c),st) else none
 | [v] => if Nat.beq f 304 then some (v,st) else none
 | _ => none
noncomputable def C0:Ctx:=C.withX X0
theorem ctxOkX0:CtxOk C0:=ctxOk_withX ctxOk0
theorem ext243 (a b:List Nat) (st:St):CallOk C (.fn 243) [.str a,.str b] .normal st (.ret (.int .i64 (cmpS a b)),st,none) :=
 ext_ok (C:=C) f243 (by kernel_rfl) (by kernel_rfl) n243 e243 (fun G w vals hv => by
  obtain ⟨v1,vs1,rfl,h1,hv1⟩:∃ v vs,vals = v :: vs ∧ VR G w (.str a) v ∧ VRs G w [.str b] vs:=by
   cases vals with
   | nil => exact hv.elim
   | cons v vs => exact ⟨v,vs,rfl,hv.1,hv.2⟩
  obtain ⟨v2,vs2,rfl,h2,hv2⟩:∃ v vs,vs1 = v :: vs ∧ VR G w (.str b) v ∧ VRs G w [] vs:=by
   cases vs1 with
   | nil => exact hv1.elim
   | cons v vs => exact ⟨v,vs,rfl,hv1.1,hv1.2⟩
  obtain rfl:vs2 = []:=by
   cases vs2 with
   | nil => rfl
   | cons v vs => exact hv2.elim
  cases h1 with
  | str s1 =>
   cases h2 with
   | str s2 => exact ⟨_,Lib.run_compareString s1 s2 w,by rw [← cmpS_eq]; exact .int _ _⟩) st
theorem ext399 (s:List Nat) (c:Int) (h0:0 ≤ c) (h1:c < 256) (st:St):CallOk C (.fn 399) [.str s,.int .u8 c] .normal st (.ret (.int .i64 (idxB s c)),st,none) :=
 ext_ok (C:=C) f399 (by kernel_rfl) (by kernel_rfl) n399 e399 (fun G w vals hv => by
  obtain ⟨v1,vs1,rfl,h1',hv1⟩:∃ v vs,vals = v :: vs ∧ VR G w (.str s) v ∧ VRs G w [.int .u8 c] vs:=by
   cases vals with
   | nil => exact hv.elim
   | cons v vs => exact ⟨v,vs,rfl,hv.1,hv.2⟩
  obtain ⟨v2,vs2,rfl,h2,hv2⟩:∃ v vs,vs1 = v :: vs ∧ VR G w (.int .u8 c) v ∧ VRs G w [] vs:=by
   cases vs1 with
   | nil => exact hv1.elim
   | cons v vs => exact ⟨v,vs,rfl,hv1.1,hv1.2⟩
  obtain rfl:vs2 = []:=by
   cases vs2 with
   | nil => rfl
   | cons v vs => exact hv2.elim
  cases h1' with
  | str s1 =>
   cases h2 with
   | int k n => exact ⟨_,run_indexByte_string s1 c w,by rw [first_eq s1 c h0 h1]; exact .int _ _⟩) st
theorem ext304 (v:AV) (st:St):CallOk C (.fn 304) [v] .normal st (.ret v,st,none) :=
 ext_ok (C:=C) f304 (by kernel_rfl) (by kernel_rfl) n304 e304 (fun G w vals hv => by
  obtain ⟨v1,vs1,rfl,h1,hv1⟩:∃ u vs,vals = u :: vs ∧ VR G w v u ∧ VRs G w [] vs:=by
   cases vals with
   | nil => exact hv.elim
   | cons v vs => exact ⟨v,vs,rfl,hv.1,hv.2⟩
  obtain rfl:vs1 = []:=by
   cases vs1 with
   | nil => rfl
   | cons v vs => exact hv1.elim
  exact ⟨v1,rfl,h1⟩) st
theorem xOkX0:XOk C0:=fun f args st v st' h => by
 change X0 f args st = some (v,st') at h
 unfold X0 at h
 split at h
 ·split at h
  ·rename_i hc
   cases h
   rw [Nat.eq_of_beq_eq_true hc]
   exact callOk_withX (ext243 _ _ _)
  ·cases h
 ·split at h
  ·rename_i hc
   simp only [Bool.and_eq_true,decide_eq_true_iff] at hc
   cases h
   rw [Nat.eq_of_beq_eq_true hc.1]
   exact callOk_withX (ext399 _ _ hc.2.1 hc.2.2 _)
  ·cases h
 ·split at h
  ·rename_i hc
   cases h
   rw [Nat.eq_of_beq_eq_true hc]
   exact callOk_withX (ext304 _ _)
  ·cases h
 ·cases h
end Go.Proofs.L06

namespace Go.Proofs.L06
open Go Go.AE
def lsB (f:AV → AV → Bool):List AV → List AV → Bool
 | [],[] => true
 | a :: x,b :: y => f a b && lsB f x y
 | _,_ => false
def avB:Nat → AV → AV → Bool
 | 0,_,_ => false
 | n + 1,a,b => match a,b with
  | .bool x,.bool y => x == y
  | .int .i64 x,.int .i64 y => decide (x = y)
  | .str x,.str y => x == y
  | .slice .nil x,.slice .nil y => lsB (avB n) x y
  | .slice .exact x,.slice .exact y => lsB (avB n) x y
  | .slice .open_ x,.slice .open_ y => lsB (avB n) x y
  | .agg x,.agg y => lsB (avB n) x y
  | .tuple x,.tuple y => lsB (avB n) x y
  | _,_ => false
def eqv (a b:AV):Bool:=avB 60 a b
theorem lsB_spec {f:AV → AV → Bool} (hf:∀ a b,f a b = true → a = b):∀ {x y:List AV},lsB f x y = true → x = y
 | [],[],_ => rfl
 | [],_ :: _,h => by cases h
 | _ :: _,[],h => by cases h
 | a :: x,b :: y,h => by
  simp only [lsB,Bool.and_eq_true] at h
  rw [hf a b h.1,lsB_spec hf h.2]
theorem avB_spec:∀ (n:Nat) (a b:AV),avB n a b = true → a = b
 | 0,_,_,h => by cases h
 | n + 1,a,b,h => by
  have ih:=fun {x y:List AV} (h:lsB (avB n) x y = true) => lsB_spec (avB_spec n) h
  unfold avB at h
  split at h
  ·rw [beq_iff_eq] at h; rw [h]
  ·rw [decide_eq_true_iff] at h; rw [h]
  ·rw [beq_iff_eq] at h; rw [h]
  ·rw [ih h]
  ·rw [ih h]
  ·rw [ih h]
  ·rw [ih h]
  ·rw [ih h]
  ·cases h
theorem eqv_spec (a b:AV) (h:eqv a b = true):a = b:=avB_spec _ a b h
attribute [irreducible] eqv
theorem withX_withX {C:Ctx} {X Y:XF}:(C.withX X).withX Y = C.withX Y:=rfl
theorem upX {X Y:XF} {f:FuncId} {args:List AV} {st:St} {r:CR × St × Option AV} (h:CallOk (C.withX X) (.fn f) args .normal st r):CallOk (C.withX Y) (.fn f) args .normal st r:=by
 have:=callOk_withX (X:=Y) h
 rwa [withX_withX] at this
abbrev Tab:=List (Nat × List AV × AV)
def lookT:Tab → Nat → List AV → Option AV
 | [],_,_ => none
 | e :: r,f,args => if Nat.beq e.1 f && lsB eqv e.2.1 args then some e.2.2 else lookT r f args
def XT (X:XF) (tab:Tab):XF:=fun f args st => match lookT tab f args with | some v => some (v,st) | none => X f args st
theorem lookT_spec {f:Nat} {args:List AV} {v:AV}:∀ {tab:Tab},lookT tab f args = some v → (f,args,v) ∈ tab
 | [],h => by cases h
 | (g,a,u) :: r,h => by
  simp only [lookT] at h
  split at h
  ·rename_i hc
   rw [Bool.and_eq_true] at hc
   cases h
   rw [Nat.eq_of_beq_eq_true hc.1,lsB_spec eqv_spec hc.2]
   exact List.mem_cons_self
  ·exact List.mem_cons_of_mem _ (lookT_spec h)
theorem xOk_tab {X:XF} {tab:Tab} (hX:XOk (C.withX X)) (h:∀ e ∈ tab,∀ st,CallOk (C.withX X) (.fn e.1) e.2.1 .normal st (.ret e.2.2,st,none)):XOk (C.withX (XT X tab)):=fun f args st v st' e => by
 change XT X tab f args st = some (v,st') at e
 unfold XT at e
 split at e
 ·rename_i u hu
  cases e
  exact upX (h _ (lookT_spec hu) st)
 ·exact upX (hX f args st v st' e)
def isR (v:AV):Option (CR × St × Option AV) → Bool
 | some (.ret u,_,_) => eqv u v
 | _ => false
theorem isR_spec {v:AV} {r:Option (CR × St × Option AV)} (h:isR v r = true):∃ st p,r = some (.ret v,st,p):=by
 unfold isR at h
 split at h
 ·rename_i u st p
  rw [eqv_spec _ _ h]
  exact ⟨_,_,rfl⟩
 ·cases h
def cleanL (l:List AV):Bool:=l.all fun a => belowA 0 a
theorem call_of {X:XF} (hX:XOk (C.withX X)) {f:Nat} {args:List AV} {v:AV} {L n:Nat} (h:isR v (callS (C.withX X) L n (.fn f) args .normal st00) = true) (h2:cleanL (v :: args) = true) (st:St) :
  CallOk (C.withX X) (.fn f) args .normal st (.ret v,st,none):=by
 obtain ⟨st',p,e⟩:=isR_spec h
 simp only [cleanL,List.all_cons,Bool.and_eq_true,List.all_eq_true] at h2
 exact callOk_eval (ctxOk_withX ctxOk0) hX globClean (callS_W _ _ _ _ _ _ e) h2.2 h2.1 st
theorem kC0:K C0:=⟨⟨X0,rfl⟩,fun f args st h => by
 show X0 f args st = none
 rw [known,Bool.or_eq_false_iff,Bool.or_eq_false_iff,Bool.or_eq_false_iff,Bool.or_eq_false_iff] at h
 unfold X0
 split
 ·rw [h.2.1]; rfl
 ·rw [h.2.2.1]; rfl
 ·rw [h.2.2.2.1]; rfl
 ·rfl,fun a b st => rfl,fun s c st h0 h1 => by
  show X0 399 [.str s,.int .u8 c] st = _
  simp [X0,h0,h1],fun v st => by
  show X0 304 [v] st = _
  unfold X0
  split <;> simp_all⟩
def X1:XF:=fun f args st => match args with
 | [.str s] => if s.all (fun b => Nat.blt b 256) then (if Nat.beq f 93 then some (.bool (chk1 1 s),st) else if Nat.beq f 130 then some (.bool (chk1 2 s),st) else X0 f args st) else X0 f args st
 | _ => X0 f args st
theorem xOk1:XOk (C.withX X1):=fun f args st v st' h => by
 have old:X0 f args st = some (v,st') → CallOk (C.withX X1) (.fn f) args .normal st (.ret v,st',none):=fun h => upX (X:=X0) (xOkX0 f args st v st' h)
 change X1 f args st = some (v,st') at h
 unfold X1 at h
 split at h
 ·rename_i s
  split at h
  ·rename_i hb
   have hs:BStr s:=fun b hb' => by
    have:=List.all_eq_true.1 hb b hb'
    have h2:=Nat.le_of_ble_eq_true (show Nat.ble (b + 1) 256 = true from this)
    omega
   split at h
   ·rename_i hf
    rw [Nat.eq_of_beq_eq_true hf]
    cases h
    exact upX (X:=X0) (callW_ok ctxOkX0 xOkX0 _ _ _ _ _ (isName_c kC0 hs st))
   ·split at h
    ·rename_i hf
     rw [Nat.eq_of_beq_eq_true hf]
     cases h
     exact upX (X:=X0) (callW_ok ctxOkX0 xOkX0 _ _ _ _ _ (isVar_c kC0 hs st))
    ·exact old h
  ·exact old h
 ·exact old h
abbrev I (n:Int):AV:=.int .i64 n
abbrev S (s:List Nat):AV:=.str s
abbrev B (b:Bool):AV:=.bool b
abbrev N:AV:=.slice .nil []
abbrev E (l:List AV):AV:=.slice .exact l
abbrev O (l:List AV):AV:=.slice .open_ l
abbrev G (l:List AV):AV:=.agg l
def pA:AV:=(G [(E [(S [105])]),(E [(G [(S [99]),(S [105]),N]),(G [(S [102]),(S [45,62]),(E [(G [(S [105]),N]),(G [(S [105]),N])])])]),(O [(G [(S [112]),(E [(G [(S [105]),N])]),(I 1),N]),(G [(S [113]),(E [(G [(S [105]),N])]),(I 1),N]),(G [(S [97]),(E [(G [(S [105]),N])]),(I 2),N]),(G [(S [108]),(E [(G [(S [105]),N])]),(I 3),N]),(G [(S [104]),(E [(G [(S [45,62]),(E [(G [(S [105]),N]),(G [(S [105]),N])])])]),(I 1),N])]),N,N])
def pa0:List AV:=[pA,(G [(I 10),(S [120]),N,(S [105]),N,(E [(G [(I 7),(S []),N,(S []),N,(E [(G [(I 1),(S [97]),(E [(G [(I 2),(I 0),(S []),N])]),(S []),N,N]),(G [(I 8),(S []),N,(S []),N,(E [(G [(I 1),(S [108]),(E [(G [(I 2),(I 0),(S []),N])]),(S []),N,N]),(G [(I 12),(S []),N,(S []),N,(E [(G [(I 4),(S []),N,(S []),N,(E [(G [(I 1),(S [97]),(E [(G [(I 1),(I 0),(S [102]),(E [(G [(I 2),(I 0),(S []),N])])])]),(S []),N,N]),(G [(I 9),(S []),N,(S []),N,(E [(G [(I 1),(S [108]),(E [(G [(I 2),(I 0),(S []),N])]),(S []),N,N])])])])])])])])])])])])])]
def pv0:AV:=(I 4)
theorem pc0 (st:St):CallOk (C.withX X1) (.fn 32) pa0 .normal st (.ret pv0,st,none):=call_of xOk1 (L:=90) (n:=90) (by kernel_rfl) (by kernel_rfl) st
def pa1:List AV:=[(G [(I 10),(S [120]),N,(S [105]),N,(E [(G [(I 7),(S []),N,(S []),N,(E [(G [(I 1),(S [97]),(E [(G [(I 2),(I 0),(S []),N])]),(S []),N,N]),(G [(I 8),(S []),N,(S []),N,(E [(G [(I 1),(S [108]),(E [(G [(I 2),(I 0),(S []),N])]),(S []),N,N]),(G [(I 12),(S []),N,(S []),N,(E [(G [(I 4),(S []),N,(S []),N,(E [(G [(I 1),(S [97]),(E [(G [(I 1),(I 0),(S [102]),(E [(G [(I 2),(I 0),(S []),N])])])]),(S []),N,N]),(G [(I 9),(S []),N,(S []),N,(E [(G [(I 1),(S [108]),(E [(G [(I 2),(I 0),(S []),N])]),(S []),N,N])])])])])])])])])])])])]),(G [(I 4),(I 0),(S []),N])]
def pv1:AV:=(.tuple [(G [(I 7),(S []),N,(S []),N,(O [(G [(I 1),(S [97]),(O [(G [(I 4),(I 0),(S []),N])]),(S []),N,N]),(G [(I 8),(S []),N,(S []),N,(O [(G [(I 1),(S [108]),(O [(G [(I 4),(I 0),(S []),N])]),(S []),N,N]),(G [(I 12),(S []),N,(S []),N,(O [(G [(I 4),(S []),N,(S []),N,(O [(G [(I 1),(S [97]),(O [(G [(I 1),(I 0),(S [102]),(O [(G [(I 4),(I 0),(S []),N])])])]),(S []),N,N]),(G [(I 9),(S []),N,(S []),N,(O [(G [(I 1),(S [108]),(O [(G [(I 4),(I 0),(S []),N])]),(S []),N,N])])])])])])])])])])]),(I 0)])
theorem pc1 (st:St):CallOk (C.withX X1) (.fn 19) pa1 .normal st (.ret pv1,st,none):=call_of xOk1 (L:=90) (n:=90) (by kernel_rfl) (by kernel_rfl) st
def pa2:List AV:=[pA]
def pv2:AV:=(I 0)
theorem pc2 (st:St):CallOk (C.withX X1) (.fn 83) pa2 .normal st (.ret pv2,st,none):=call_of xOk1 (L:=90) (n:=90) (by kernel_rfl) (by kernel_rfl) st
def pa3:List AV:=[(G [(I 4),(S []),N,(S []),N,(O [(G [(I 1),(S [112]),(O [(G [(I 1),(I 0),(S [102]),(O [(G [(I 3),(I 0),(S []),N])])])]),(S []),N,N]),(G [(I 10),(S [120]),N,(S [105]),N,(O [(G [(I 1),(S [113]),(O [(G [(I 1),(I 0),(S [102]),(O [(G [(I 3),(I 0),(S []),N])])])]),(S []),N,N])])])])]),(G [(I 4),(S []),N,(S []),N,(E [(G [(I 1),(S [112]),(E [(G [(I 1),(I 0),(S [102]),(E [(G [(I 3),(I 0),(S []),N])])])]),(S []),N,N]),(G [(I 10),(S [120]),N,(S [105]),N,(E [(G [(I 1),(S [113]),(E [(G [(I 1),(I 0),(S [102]),(E [(G [(I 3),(I 0),(S []),N])])])]),(S []),N,N])])])])])]
def pv3:AV:=(B true)
theorem pc3 (st:St):CallOk (C.withX X1) (.fn 13) pa3 .normal st (.ret pv3,st,none):=call_of xOk1 (L:=90) (n:=90) (by kernel_rfl) (by kernel_rfl) st
def tab1:Tab:=[(32,pa0,pv0),(19,pa1,pv1),(83,pa2,pv2),(13,pa3,pv3)]
def X2:XF:=XT X1 tab1
theorem xOk2:XOk (C.withX X2):=xOk_tab xOk1 fun e he st => by
 simp only [tab1,List.mem_cons,List.not_mem_nil,or_false] at he
 rcases he with rfl | rfl | rfl | rfl
 ·exact pc0 st
 ·exact pc1 st
 ·exact pc2 st
 ·exact pc3 st
def ra0:List AV:=[pA,(G [(I 10),(S [120]),N,(S [105]),N,(E [(G [(I 7),(S []),N,(S []),N,(E [(G [(I 1),(S [97]),(E [(G [(I 2),(I 0),(S []),N])]),(S []),N,N]),(G [(I 8),(S []),N,(S []),N,(E [(G [(I 1),(S [108]),(E [(G [(I 2),(I 0),(S []),N])]),(S []),N,N]),(G [(I 12),(S []),N,(S []),N,(E [(G [(I 4),(S []),N,(S []),N,(E [(G [(I 1),(S [97]),(E [(G [(I 1),(I 0),(S [102]),(E [(G [(I 2),(I 0),(S []),N])])])]),(S []),N,N]),(G [(I 9),(S []),N,(S []),N,(E [(G [(I 1),(S [108]),(E [(G [(I 2),(I 0),(S []),N])]),(S []),N,N])])])])])])])])])])])])])]
def rv0:AV:=(.tuple [(G [(O [(G [(S [105]),N])]),(O [(G [(B false),(S [97]),(O [(G [(I 4),(I 0),(S []),N])])]),(G [(B true),(S [108]),(O [(G [(I 4),(I 0),(S []),N])])])]),(I 4),(S []),N,(S []),N,(O [(G [(I 1),(S [97]),(O [(G [(I 1),(I 0),(S [102]),(O [(G [(I 4),(I 0),(S []),N])])])]),(S []),N,N]),(G [(I 9),(S []),N,(S []),N,(O [(G [(I 1),(S [108]),(O [(G [(I 4),(I 0),(S []),N])]),(S []),N,N])])])])]),(I 0)])
theorem rc0 (st:St):CallOk (C.withX X2) (.fn 34) ra0 .normal st (.ret rv0,st,none):=call_of xOk2 (L:=90) (n:=90) (by kernel_rfl) (by kernel_rfl) st
def tab2:Tab:=[(34,ra0,rv0)]
def X3:XF:=XT X2 tab2
theorem xOk3:XOk (C.withX X3):=xOk_tab xOk2 fun e he st => by
 simp only [tab2,List.mem_cons,List.not_mem_nil,or_false] at he
 subst he
 exact rc0 st
theorem sane_ok (st:St):CallOk (C.withX X3) (.fn 6) [] .normal st (.ret (.bool true),st,none):=call_of xOk3 (L:=90) (n:=90) (by kernel_rfl) rfl st
end Go.Proofs.L06
