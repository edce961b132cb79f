/- Texts of both, and the body of the law; the arguments. -/
import Derived.Test.YtdlahjpoiichkaaGreatDoorS8
import Derived.Test.YtdlahjpoiichkaaGreatDoorRows
set_option linter.unusedVariables false
set_option linter.unusedSimpArgs false
set_option linter.unusedSectionVars false
namespace Go.Proofs.L06
open Go Go.AE
open Nat renaming reduceLT → rA,reduceLeDiff → rB,reduceEqDiff → rC,reduceMul → rD,reduceAdd → rE,reduceSub → rF
set_option maxHeartbeats 8000000
theorem i_rem10 {m:Nat}:intOp .rem .i64 (m:Int) 10 = some (.int .i64 ((m % 10:Nat):Int)):=(rfl)
theorem i_quo10 {m:Nat} (h:m < 1000000000):intOp .quo .i64 (m:Int) 10 = some (.int .i64 ((m / 10:Nat):Int)):=by
 show some (AV.int .i64 (IntKind.i64.wrap ((m / 10:Nat):Int))) = _
 rw [wrapN rfl (by omega)]
theorem so_add {a b:List Nat} (h:a.length + b.length ≤ 4294967296):strOp .add a b = some (.str (a ++ b)):=by rw [strOp,if_pos h]
theorem w8 {z:Int} {n:Nat} (h:z = (n:Int)) (k:n < 256):IntKind.u8.wrap z = (n:Int):=by
 subst h
 have e:(2:Int) ^ IntKind.u8.bits = 256:=rfl
 simp [IntKind.wrap,IntKind.signed,e]
 omega
theorem cvB {Q:Ctx} (hK:K Q) {st:St} {k:SK} {c:Nat} (h:c < 256):convA Q st 94 9 (.slice k [.int .u8 (c:Int)]) = some (.str [c]):=by
 simp only [convA,tw94 hK,tw9 hK,T94,T9,tw5 hK,T5]
 simp [bytesOf?,h]
section
variable {Q:Ctx} (hK:K Q)
include hK
theorem sign106 {kd:Int} (h:kd = 4 ∨ kd = 5 ∨ kd = 6 ∨ kd = 7 ∨ kd = 8):Ret Q 106 [.int .i64 kd] (.str (opn kd)):=fun st => by
 refine callY (N:=12) (ok106 hK) (hK.nx _ _ _ rfl) rfl rfl ?_
 rcases h with rfl | rfl | rfl | rfl | rfl
 ·simp only [RS,RT,RZ,Zu,rA,rB,rC,rD,rE,rF,reduceCtorEq,Zw,x106,F106,Int.reduceBEq,show opn 4 = [42] from rfl]
 ·simp only [RS,RT,RZ,Zu,rA,rB,rC,rD,rE,rF,reduceCtorEq,Zw,x106,F106,Int.reduceBEq,show opn 5 = [38] from rfl]
 ·simp only [RS,RT,RZ,Zu,rA,rB,rC,rD,rE,rF,reduceCtorEq,Zw,x106,F106,Int.reduceBEq,show opn 6 = [43] from rfl]
 ·simp only [RS,RT,RZ,Zu,rA,rB,rC,rD,rE,rF,reduceCtorEq,Zw,x106,F106,Int.reduceBEq,show opn 7 = [45,111] from rfl]
 ·simp only [RS,RT,RZ,Zu,rA,rB,rC,rD,rE,rF,reduceCtorEq,Zw,x106,F106,Int.reduceBEq,show opn 8 = [61,62] from rfl]
theorem digits242 {n:Nat} (hn:n < 1000000000):Ret Q 242 [.int .i64 (n:Int)] (.str (dig n)):=fun st => by
 refine callY (N:=23) (ok242 hK) (hK.nx _ _ _ rfl) rfl rfl ?_
 simp only [RS,RT,RZ,Zu,rA,rB,rC,rD,rE,rF,reduceCtorEq,Zw,x242,y242,F242]
 refine post_bind (post_loop (I:=fun f T st1 => ∃ (m:Nat) (s:List Nat),m ≤ f ∧ m < 1000000000 ∧ s.length + m < 2000000000 ∧ T 0 = .int .i64 (m:Int) ∧ T 3 = .str s ∧ dig m ++ s = dig n ∧ st1 = ⟨st.heap,st.next,[]⟩)
  (Q:=fun e T st1 => ∃ (m:Nat) (s:List Nat),e = .exit 0 ∧ m < 10 ∧ s.length < 2000000000 ∧ T 0 = .int .i64 (m:Int) ∧ T 3 = .str s ∧ dig m ++ s = dig n ∧ st1 = ⟨st.heap,st.next,[]⟩) ?_ n _ _ ?_) ?_
 ·rintro f T _ ⟨m,s,hf,hm,hs,t0,t3,hd,rfl⟩
  by_cases h:10 ≤ m
  ·have h1:=decT (show (10:Int) ≤ (m:Int) by omega)
   have w1:=wrapN (z:=48 + ((m % 10:Nat):Int)) (n:=48 + m % 10) (by omega) (by omega)
   have w2:=w8 (z:=((48 + m % 10:Nat):Int)) rfl (by omega)
   have b1:binIX Q .add 3 (.const (.int .i64 48)) (.tmp 7) (.int .i64 48) (.int .i64 ((m % 10:Nat):Int)) = some (.int .i64 ((48 + m % 10:Nat):Int)):=by
    rw [← w1]; rfl
   have cv:=fun {st:St} {k:SK} => cvB hK (st:=st) (k:=k) (c:=48 + m % 10) (by omega)
   have sa:=so_add (a:=[48 + m % 10]) (b:=s) (by simp; omega)
   simp only [RS,RT,RZ,Zu,rA,rB,rC,rD,rE,rF,reduceCtorEq,Zw,l242_0,m242_0,t0,t3,h1,i_rem10,i_quo10 hm,b1,convA_int (tw3 hK) (tw5 hK),w2,cv,sa]
   refine ⟨m / 10,by omega,m / 10,(48 + m % 10) :: s,Nat.le_refl _,by omega,by simp; omega,rfl,rfl,?_⟩
   rw [← hd]
   conv => rhs; rw [dig,dif_neg (by omega)]
   simp
  ·have h1:=decF (show ¬ (10:Int) ≤ (m:Int) by omega)
   simp only [RS,RT,RZ,Zu,rA,rB,rC,rD,rE,rF,reduceCtorEq,Zw,l242_0,m242_0,t0,t3,h1]
   exact ⟨m,s,by omega,by omega,rfl,rfl,hd⟩
 ·simp only [RS,RT,RZ,Zu,rA,rB,rC,rD,rE,rF,reduceCtorEq,Zw,]
  exact ⟨n,[],Nat.le_refl _,hn,by simp; omega,rfl,rfl,by simp⟩
 ·rintro e T _ ⟨m,s,rfl,hm,hs,t0,t3,hd,rfl⟩
  have w1:=wrapN (z:=48 + (m:Int)) (n:=48 + m) (by omega) (by omega)
  have w2:=w8 (z:=((48 + m:Nat):Int)) rfl (by omega)
  have cv:=fun {st:St} {k:SK} => cvB hK (st:=st) (k:=k) (c:=48 + m) (by omega)
  have sa:=so_add (a:=[48 + m]) (b:=s) (by simp; omega)
  simp only [RS,RT,RZ,Zu,rA,rB,rC,rD,rE,rF,reduceCtorEq,Zw,t0,t3,w1,convA_int (tw3 hK) (tw5 hK),w2,cv,sa]
  rw [← hd,dig,dif_pos hm]
  rfl
end
end Go.Proofs.L06

namespace Go.Proofs.L06
open Go Go.AE
open Nat renaming reduceLT → rA,reduceLeDiff → rB,reduceEqDiff → rC,reduceMul → rD,reduceAdd → rE,reduceSub → rF
set_option maxHeartbeats 8000000
mutual
def Ty.txt:Ty → List Nat | .mk nm _ xs => if xs.length = 0 then nm else [40,32] ++ Ty.t1 xs ++ [32,45,62,32] ++ Ty.t2 xs ++ [32,41]
def Ty.t1:List Ty → List Nat | [] => [] | t :: _ => t.txt
def Ty.t2:List Ty → List Nat | [] => [] | _ :: r => Ty.t1 r
end
theorem shp_two {nm:List Nat} {k:SK} {xs:List Ty} (h:(Ty.mk nm k xs).shp = true) (h0:xs ≠ []):∃ a b,xs = [a,b] ∧ a.shp = true ∧ b.shp = true ∧ nm = arrow:=by
 cases e:(nm == arrow) with
 | false =>
  rw [shp_nil e,beq_iff_eq] at h
  exact absurd (List.length_eq_zero_iff.1 (by omega)) h0
 | true =>
  rw [shp_arr e,Bool.and_eq_true,beq_iff_eq] at h
  obtain ⟨h1,h2⟩:=h
  match xs,h1,h2 with
  | [a,b],_,h2 =>
   rw [Ty.shps,Ty.shps,Ty.shps,Bool.and_true,Bool.and_eq_true] at h2
   exact ⟨a,b,rfl,h2.1,h2.2,beq_iff_eq.1 e⟩
  | [],h1,_ => simp at h1
  | [_],h1,_ => simp at h1
  | _ :: _ :: _ :: _,h1,_ => simp at h1; omega
section
variable {Q:Ctx} (hK:K Q)
include hK
theorem typeText105 (t:Ty):t.Ok → t.shp = true → t.txt.length ≤ 4294967296 → Ret Q 105 [t.av] (.str t.txt):=by
 induction t using Ty.ind with
 | _ nm k xs ih =>
 intro hok hsh hlen st
 refine callY (N:=23) (ok105 hK) (hK.nx _ _ _ rfl) rfl rfl ?_
 obtain ⟨_,_,hl,hoks⟩:=hok
 rw [Ty.av]
 by_cases h0:xs = []
 ·subst h0
  rw [show (Ty.mk nm k []).txt = nm by rw [Ty.txt]; rfl]
  simp only [RS,RT,RZ,Zu,rA,rB,rC,rD,rE,rF,reduceCtorEq,Zw,x105,y105,kd105_0,k105_0,F105,Ty.avs,Ty.len,Int.reduceBEq,List.length_nil]
 ·obtain ⟨a,b,rfl,ha,hb,rfl⟩:=shp_two hsh h0
  have ht:(Ty.mk arrow k [a,b]).txt = [40,32] ++ a.txt ++ [32,45,62,32] ++ b.txt ++ [32,41]:=by
   rw [Ty.txt,Ty.t1,Ty.t2,Ty.t1]; rfl
  rw [ht] at hlen ⊢
  have hlen':a.txt.length + b.txt.length + 8 ≤ 4294967296:=by simp at hlen; omega
  have ca:=ih a (by simp) (Ty.oks hoks _ (by simp)) ha (by omega)
  have cb:=ih b (by simp) (Ty.oks hoks _ (by simp)) hb (by omega)
  generalize a.txt = x at *
  generalize b.txt = y at *
  have s1:=so_add (a:=[40,32]) (b:=x) (by simp; omega)
  have s2:=so_add (a:=[40,32] ++ x) (b:=[32,45,62,32]) (by simp; omega)
  have s3:=so_add (a:=[40,32] ++ x ++ [32,45,62,32]) (b:=y) (by simp; omega)
  have s4:=so_add (a:=[40,32] ++ x ++ [32,45,62,32] ++ y) (b:=[32,41]) (by simp; omega)
  generalize [40,32] ++ x = z1 at *
  generalize z1 ++ [32,45,62,32] = z2 at *
  generalize z2 ++ y = z3 at *
  generalize z3 ++ [32,41] = z4 at *
  obtain ⟨nm1,k1,xs1⟩:=a
  obtain ⟨nm2,k2,xs2⟩:=b
  rw [Ty.av] at ca cb
  simp only [RS,RT,RZ,Zu,rA,rB,rC,rD,rE,rF,reduceCtorEq,Zw,x105,y105,kd105_0,k105_0,F105,Ty.avs,Ty.av,Int.reduceBEq,ca,cb,s1,s2,s3,s4]
end
end Go.Proofs.L06

namespace Go.Proofs.L06
open Go Go.AE
open Nat renaming reduceLT → rA,reduceLeDiff → rB,reduceEqDiff → rC,reduceMul → rD,reduceAdd → rE,reduceSub → rF
set_option maxHeartbeats 8000000
def Tm.lamA:Tm → Bool | .mk kd _ _ _ xs => kd == 5 || !xs.isEmpty
mutual
def Tm.txt:Tm → List Nat | .mk kd n nm _ xs => if kd = 5 then [92,32,46,32] ++ Tm.x1 xs else htok kd n nm ++ Tm.axt xs
def Tm.x1:List Tm → List Nat | [] => [] | t :: _ => t.txt
def Tm.axt:List Tm → List Nat | [] => [] | t :: r => (if t.lamA then [32,40,32] ++ t.txt ++ [32,41] else [32] ++ t.txt) ++ Tm.axt r
end
theorem axt_take {xs:List Tm} {i:Nat} {a:Tm} (h:xs[i]? = some a):Tm.axt (xs.take (i + 1)) = Tm.axt (xs.take i) ++ (if a.lamA then [32,40,32] ++ a.txt ++ [32,41] else [32] ++ a.txt):=by
 induction xs generalizing i with
 | nil => simp at h
 | cons x r ih =>
  cases i with
  | zero => simp at h; subst h; simp [Tm.axt]
  | succ i =>
   rw [List.getElem?_cons_succ] at h
   rw [List.take_succ_cons,List.take_succ_cons,Tm.axt,Tm.axt,ih h,← List.append_assoc]
theorem axt_le {xs:List Tm} {i:Nat}:(Tm.axt (xs.take i)).length ≤ (Tm.axt xs).length:=by
 induction xs generalizing i with
 | nil => simp
 | cons x r ih =>
  cases i with
  | zero => simp [Tm.axt]
  | succ i =>
   rw [List.take_succ_cons,Tm.axt,Tm.axt,List.length_append,List.length_append]
   have:=ih (i:=i)
   omega
section
variable {Q:Ctx} (hK:K Q)
include hK
theorem atom104 {kd:Int} {nm:List Nat} {k:SK} {xs:List Tm} {c3 c4 c5:AV} (hl:xs.length < Big) (hx:∀ x ∈ xs,Ret Q 176 [x.av] (.str x.txt)) (hlen:(nm ++ Tm.axt xs).length ≤ 4294967296) :
  Ret Q 104 [.agg [.int .i64 kd,.str nm,.slice k (Tm.avs xs),c3,c4,c5]] (.str (nm ++ Tm.axt xs)):=fun st => by
 refine callY (N:=41) (ok104 hK) (hK.nx _ _ _ rfl) rfl rfl ?_
 simp only [RS,RT,RZ,Zu,rA,rB,rC,rD,rE,rF,reduceCtorEq,Zw,x104,y104,F104]
 refine post_bind (post_for (I:=fun i T st1 => T 1 = .ptr st.next 0 ∧ T 3 = .str (nm ++ Tm.axt (xs.take i)) ∧ T 4 = .int .i64 (i:Int) ∧ st1.heap st.next = .mem 28 [.int .i64 kd,.str nm,.slice k (Tm.avs xs),c3,c4,c5] true 0 ∧ st.next < st1.next ∧ LogOk st.next st1.log)
  (Q:=fun e T st1 => e = .exit 0 ∧ T 3 = .str (nm ++ Tm.axt xs) ∧ LogOk st.next st1.log) xs.length ?_ ?_ (Nat.zero_le _) ?_) ?_
 ·rintro i T ⟨h,nx,lg⟩ hi ⟨t1,t3,t4,hh,hn,hlg⟩
  simp only at hh hn hlg
  obtain ⟨a,ha⟩:∃ a,xs[i]? = some a:=⟨_,List.getElem?_eq_getElem hi⟩
  have ham:=List.mem_of_getElem? ha
  have hget:=Tm.get ha
  have hc:=hx a ham
  have hi2:=wrapUp (show i < 9223372036854775807 by unfold Big at hl; omega)
  have hle:=axt_le (xs:=xs) (i:=i + 1)
  have e0:(st.next = nx) = False:=eq_false (by omega)
  have e0':(nx = st.next) = False:=eq_false (by omega)
  rw [axt_take ha] at hle ⊢
  rw [List.length_append] at hlen hle
  generalize Tm.axt (xs.take i) = z at *
  rw [← List.append_assoc]
  cases hL:a.lamA with
  | true =>
   rw [hL,if_pos rfl] at hle
   rw [if_pos rfl]
   have hle':z.length + a.txt.length + 5 ≤ (Tm.axt xs).length:=by simp at hle; omega
   generalize a.txt = x at *
   have s1:=so_add (a:=nm ++ z) (b:=[32,40,32]) (by simp; omega)
   have s2:=so_add (a:=nm ++ z ++ [32,40,32]) (b:=x) (by simp; omega)
   have s3:=so_add (a:=nm ++ z ++ [32,40,32] ++ x) (b:=[32,41]) (by simp; omega)
   rw [show nm ++ z ++ ([32,40,32] ++ x ++ [32,41]) = nm ++ z ++ [32,40,32] ++ x ++ [32,41] by simp]
   generalize nm ++ z = z0 at *
   generalize z0 ++ [32,40,32] = z1 at *
   generalize z1 ++ x = z2 at *
   generalize z2 ++ [32,41] = z3 at *
   obtain ⟨kd',n',nm',k',xs'⟩:=a
   rw [Tm.av] at hc hget
   rw [Tm.lamA] at hL
   cases e5:(kd' == (5:Int)) with
   | true =>
    simp only [RS,RT,RZ,Zu,rA,rB,rC,rD,rE,rF,reduceCtorEq,Zw,l104_0,m104_0,t1,t3,t4,hh,hi,hget,hc,hi2,Tm.len,s1,s2,s3,e0,e0',e5]
    exact ⟨by omega,by omega,hlg⟩
   | false =>
    rw [e5,Bool.false_or] at hL
    have h8:=decT (show (0:Int) < (xs'.length:Int) by cases xs' with | nil => simp at hL | cons _ _ => simp)
    simp only [RS,RT,RZ,Zu,rA,rB,rC,rD,rE,rF,reduceCtorEq,Zw,l104_0,m104_0,t1,t3,t4,hh,hi,hget,hc,hi2,Tm.len,s1,s2,s3,e0,e0',e5,h8]
    exact ⟨by omega,by omega,hlg⟩
  | false =>
   rw [hL,if_neg (by decide)] at hle
   rw [if_neg (by decide)]
   have hle':z.length + a.txt.length + 1 ≤ (Tm.axt xs).length:=by simp at hle; omega
   generalize a.txt = x at *
   have s1:=so_add (a:=nm ++ z) (b:=[32]) (by simp; omega)
   have s2:=so_add (a:=nm ++ z ++ [32]) (b:=x) (by simp; omega)
   rw [show nm ++ z ++ ([32] ++ x) = nm ++ z ++ [32] ++ x by simp]
   generalize nm ++ z = z0 at *
   generalize z0 ++ [32] = z1 at *
   generalize z1 ++ x = z2 at *
   obtain ⟨kd',n',nm',k',xs'⟩:=a
   rw [Tm.av] at hc hget
   rw [Tm.lamA,Bool.or_eq_false_iff] at hL
   have e5:=hL.1
   have h8:=decF (show ¬ (0:Int) < (xs'.length:Int) by have:=hL.2; cases xs' with | nil => simp | cons _ _ => simp at this)
   simp only [RS,RT,RZ,Zu,rA,rB,rC,rD,rE,rF,reduceCtorEq,Zw,l104_0,m104_0,t1,t3,t4,hh,hi,hget,hc,hi2,Tm.len,s1,s2,e0,e0',e5,h8]
   exact ⟨by omega,by omega,hlg⟩
 ·rintro T ⟨h,nx,lg⟩ ⟨t1,t3,t4,hh,hn,hlg⟩
  simp only at hh hn hlg
  rw [List.take_length] at t3
  simp only [RS,RT,RZ,Zu,rA,rB,rC,rD,rE,rF,reduceCtorEq,Zw,l104_0,m104_0,t1,t3,t4,hh,Tm.len]
  first | done | exact hlg
 ·simp only [RS,RT,RZ,Zu,rA,rB,rC,rD,rE,rF,reduceCtorEq,Zw,List.take_zero,Tm.axt,List.append_nil]
  first | done | omega
 ·rintro e T ⟨h,nx,lg⟩ ⟨rfl,h3,hlg⟩
  simp only [RS,RT,RZ,Zu,rA,rB,rC,rD,rE,rF,reduceCtorEq,Zw,h3]
  first | done | exact hlg
end
end Go.Proofs.L06

namespace Go.Proofs.L06
open Go Go.AE
open Nat renaming reduceLT → rA,reduceLeDiff → rB,reduceEqDiff → rC,reduceMul → rD,reduceAdd → rE,reduceSub → rF
set_option maxHeartbeats 8000000
theorem axt_mem {x:Tm}:∀ {xs:List Tm},x ∈ xs → x.txt.length ≤ (Tm.axt xs).length
 | y :: r,h => by
  rw [Tm.axt,List.length_append]
  rcases List.mem_cons.1 h with rfl | h
  ·split <;> simp <;> omega
  ·have:=axt_mem h; omega
section
variable {Q:Ctx} (hK:K Q)
include hK
theorem term176 (t:Tm):t.Ok → t.shp = true → t.txt.length ≤ 4294967296 → Ret Q 176 [t.av] (.str t.txt):=by
 induction t using Tm.ind with
 | _ kd n nm k xs ih =>
 intro hok hsh hlen st
 refine callY (N:=49) (ok176 hK) (hK.nx _ _ _ rfl) rfl rfl ?_
 obtain ⟨_,_,_,_,hl,hoks⟩:=hok
 rw [Tm.shp,Bool.and_eq_true] at hsh
 obtain ⟨hN,hS⟩:=hsh
 rw [Tm.shps_all,List.all_eq_true] at hS
 rw [Tm.av]
 by_cases h5:kd = 5
 ·subst h5
  have h1:xs.length = 1:=by
   rw [show nodeT 5 n nm xs.length = ((n == 0) && ((nm == []) && ((xs.length:Int) == 1))) from rfl] at hN
   simp only [Bool.and_eq_true,beq_iff_eq] at hN
   omega
  obtain ⟨a,rfl⟩:∃ a,xs = [a]:=List.length_eq_one_iff.1 h1
  have ht:(Tm.mk 5 n nm k [a]).txt = [92,32,46,32] ++ a.txt:=by rw [Tm.txt,if_pos rfl,Tm.x1]
  rw [ht] at hlen ⊢
  rw [List.length_append] at hlen
  have hlen':a.txt.length + 4 ≤ 4294967296:=by simp at hlen; omega
  have ca:=ih a (by simp) (Tm.oks hoks _ (by simp)) (hS _ (by simp)) (by omega)
  generalize a.txt = x at *
  have s1:=so_add (a:=[92,32,46,32]) (b:=x) (by simp; omega)
  generalize [92,32,46,32] ++ x = z1 at *
  obtain ⟨kd',n',nm',k',xs'⟩:=a
  rw [Tm.av] at ca
  simp only [RS,RT,RZ,Zu,rA,rB,rC,rD,rE,rF,reduceCtorEq,Zw,x176,y176,kd176_0,k176_0,kd176_1,k176_1,kd176_2,k176_2,F176,Tm.avs,Tm.av,Int.reduceBEq,ca,s1]
 ·have ht:(Tm.mk kd n nm k xs).txt = htok kd n nm ++ Tm.axt xs:=by rw [Tm.txt,if_neg h5]
  rw [ht] at hlen ⊢
  have hx:∀ x ∈ xs,Ret Q 176 [x.av] (.str x.txt):=fun x hx => ih x hx (Tm.oks hoks _ hx) (hS _ hx) (by have:=axt_mem hx; rw [List.length_append] at hlen; omega)
  have ca:=atom104 hK (kd:=0) (nm:=htok kd n nm) (k:=k) (c3:=.str []) (c4:=.slice .nil []) (c5:=.slice .nil []) hl hx hlen
  by_cases h1:kd = 1
  ·subst h1
   rw [show htok 1 n nm = nm from rfl] at ca ⊢
   generalize nm ++ Tm.axt xs = z at *
   simp only [RS,RT,RZ,Zu,rA,rB,rC,rD,rE,rF,reduceCtorEq,Zw,x176,y176,kd176_0,k176_0,kd176_1,k176_1,kd176_2,k176_2,F176,Int.reduceBEq,ca]
  ·have h2:kd = 2 ∨ kd = 3 ∨ kd = 4:=by
    unfold nodeT at hN
    rw [if_neg h1] at hN
    split at hN
    ·assumption
    ·simp only [Bool.and_eq_true,beq_iff_eq] at hN; exact absurd hN.1 h5
   rw [show nodeT kd n nm xs.length = (decide (0 ≤ n) && (decide (n ≤ 100000) && ((nm == []) && decide ((xs.length:Int) ≤ 8)))) by unfold nodeT; rw [if_neg h1,if_pos h2]] at hN
   simp only [Bool.and_eq_true,decide_eq_true_eq] at hN
   obtain ⟨m,rfl⟩:∃ m:Nat,n = (m:Int):=⟨n.toNat,by omega⟩
   have hd:=digits242 hK (n:=m) (by omega)
   rw [htok,if_neg h1,Int.toNat_natCast] at hlen ca ⊢
   have hlen':(dig m).length + 1 ≤ 4294967296:=by
    rw [List.length_append,List.length_append] at hlen
    rcases h2 with rfl | rfl | rfl <;> (simp [ltr] at hlen; omega)
   generalize dig m = s at *
   rcases h2 with rfl | rfl | rfl
   ·have s1:=so_add (a:=[66]) (b:=s) (by simp; omega)
    rw [show ltr 2 = [66] from rfl] at ca ⊢
    generalize [66] ++ s = z0 at *
    generalize z0 ++ Tm.axt xs = z at *
    simp only [RS,RT,RZ,Zu,rA,rB,rC,rD,rE,rF,reduceCtorEq,Zw,x176,y176,kd176_0,k176_0,kd176_1,k176_1,kd176_2,k176_2,F176,Int.reduceBEq,hd,s1,ca]
   ·have s1:=so_add (a:=[80]) (b:=s) (by simp; omega)
    rw [show ltr 3 = [80] from rfl] at ca ⊢
    generalize [80] ++ s = z0 at *
    generalize z0 ++ Tm.axt xs = z at *
    simp only [RS,RT,RZ,Zu,rA,rB,rC,rD,rE,rF,reduceCtorEq,Zw,x176,y176,kd176_0,k176_0,kd176_1,k176_1,kd176_2,k176_2,F176,Int.reduceBEq,hd,s1,ca]
   ·have s1:=so_add (a:=[86]) (b:=s) (by simp; omega)
    rw [show ltr 4 = [86] from rfl] at ca ⊢
    generalize [86] ++ s = z0 at *
    generalize z0 ++ Tm.axt xs = z at *
    simp only [RS,RT,RZ,Zu,rA,rB,rC,rD,rE,rF,reduceCtorEq,Zw,x176,y176,kd176_0,k176_0,kd176_1,k176_1,kd176_2,k176_2,F176,Int.reduceBEq,hd,s1,ca]
end
end Go.Proofs.L06

namespace Go.Proofs.L06
open Go Go.AE
open Nat renaming reduceLT → rA,reduceLeDiff → rB,reduceEqDiff → rC,reduceMul → rD,reduceAdd → rE,reduceSub → rF
set_option maxHeartbeats 8000000
mutual
def Fo.txt:Fo → List Nat
 | .mk kd nm _ xs ty _ ls =>
  if kd = 1 then nm ++ Tm.axt xs else if kd = 2 then [111,110,101] else if kd = 3 then [116,111,112]
  else if kd = 9 then [33,32] ++ Fo.t1 ls else if kd = 12 then [123,32] ++ Fo.t1 ls ++ [32,125]
  else if kd = 10 then [97,108,108,32,58,32] ++ ty.txt ++ [32,46,32] ++ Fo.t1 ls
  else if kd = 11 then [101,120,32,58,32] ++ ty.txt ++ [32,46,32] ++ Fo.t1 ls
  else [40,32] ++ Fo.t1 ls ++ [32] ++ opn kd ++ [32] ++ Fo.t2 ls ++ [32,41]
def Fo.t1:List Fo → List Nat | [] => [] | t :: _ => t.txt
def Fo.t2:List Fo → List Nat | [] => [] | _ :: r => Fo.t1 r
end
theorem rawTm_shp {t:Tm} (h:rawTm t = 0):t.shp = true:=by
 unfold rawTm at h
 split at h
 ·split at h
  ·assumption
  ·cases h
 ·rename_i h2; exact absurd h h2
theorem shp_ty {kd:Int} {nm:List Nat} {ka:SK} {xs:List Tm} {ty:Ty} {kl:SK} {ls:List Fo} (h:(Fo.mk kd nm ka xs ty kl ls).shp = true) (q:isQ kd = true):ty.shp = true:=by
 rw [Fo.shp] at h
 simp only [Bool.and_eq_true] at h
 have h2:=h.2.1
 have k1:kd ≠ 1:=by rintro rfl; cases q
 rw [if_neg k1,othN,q,← Ty.fe_err] at h2
 simp only [Bool.not_true,Bool.false_or,Bool.and_eq_true,beq_iff_eq,Bool.true_or] at h2
 have h3:=h2.2.2.2
 unfold Ty.fe at h3
 split at h3
 ·cases h3
 ·split at h3
  ·cases h3
  ·split at h3
   ·assumption
   ·cases h3
theorem prts_kd {kd:Int} {n:Nat} (h:prts kd = (n:Int)):(n = 0 ∧ (kd = 1 ∨ kd = 2 ∨ kd = 3)) ∨ (n = 2 ∧ (kd = 4 ∨ kd = 5 ∨ kd = 6 ∨ kd = 7 ∨ kd = 8)) ∨ (n = 1 ∧ (kd = 9 ∨ kd = 10 ∨ kd = 11 ∨ kd = 12)):=by
 unfold prts at h
 split at h
 ·left; omega
 ·split at h
  ·right; left; omega
  ·split at h
   ·right; right; omega
   ·omega
section
variable {Q:Ctx} (hK:K Q)
include hK
theorem text49 (f:Fo):f.Ok → f.shp = true → f.txt.length ≤ 4294967296 → Ret Q 49 [f.av] (.str f.txt):=by
 induction f using Fo.ind with
 | _ kd nm ka xs ty kl ls ih =>
 intro hok hsh hlen st
 refine callY (N:=75) (ok49 hK) (hK.nx _ _ _ rfl) rfl rfl ?_
 obtain ⟨_,_,_,hl,hoks,hty,_,hl2,hoks2⟩:=hok
 have F:=shp_facts hsh
 have hts:=fun q => shp_ty hsh q
 rw [Fo.av]
 rcases prts_kd F.pr with ⟨h0,hk⟩ | ⟨h0,hk⟩ | ⟨h0,hk⟩
 ·have l0:ls = []:=List.length_eq_zero_iff.1 h0
  subst l0
  rcases hk with rfl | rfl | rfl
  ·have ht:(Fo.mk 1 nm ka xs ty kl []).txt = nm ++ Tm.axt xs:=by rw [Fo.txt]; rfl
   rw [ht] at hlen ⊢
   have ca:=atom104 hK (kd:=1) (nm:=nm) (k:=ka) (c3:=.str ty.nm) (c4:=.slice ty.k (Ty.avs ty.xs)) (c5:=.slice kl (Fo.avs [])) hl (fun x hx => term176 hK x (Tm.oks hoks _ hx) (rawTm_shp (F.raw rfl x hx)) (by have:=axt_mem hx; rw [List.length_append] at hlen; omega)) hlen
   generalize nm ++ Tm.axt xs = z at *
   simp only [RS,RT,RZ,Zu,rA,rB,rC,rD,rE,rF,reduceCtorEq,Zw,x49,y49,kd49_0,k49_0,kd49_1,k49_1,kd49_2,k49_2,F49,Int.reduceBEq,ca]
  ·have ht:(Fo.mk 2 nm ka xs ty kl []).txt = [111,110,101]:=by rw [Fo.txt]; rfl
   rw [ht]
   simp only [RS,RT,RZ,Zu,rA,rB,rC,rD,rE,rF,reduceCtorEq,Zw,x49,y49,kd49_0,k49_0,kd49_1,k49_1,kd49_2,k49_2,F49,Int.reduceBEq]
  ·have ht:(Fo.mk 3 nm ka xs ty kl []).txt = [116,111,112]:=by rw [Fo.txt]; rfl
   rw [ht]
   simp only [RS,RT,RZ,Zu,rA,rB,rC,rD,rE,rF,reduceCtorEq,Zw,x49,y49,kd49_0,k49_0,kd49_1,k49_1,kd49_2,k49_2,F49,Int.reduceBEq]
 ·obtain ⟨a,b,rfl⟩:∃ a b,ls = [a,b]:=by
   match ls,h0 with
   | [a,b],_ => exact ⟨a,b,rfl⟩
  have hs:=sign106 hK hk
  have ht:(Fo.mk kd nm ka xs ty kl [a,b]).txt = [40,32] ++ a.txt ++ [32] ++ opn kd ++ [32] ++ b.txt ++ [32,41]:=by
   rw [Fo.txt]
   rw [if_neg (by omega),if_neg (by omega),if_neg (by omega),if_neg (by omega),if_neg (by omega),if_neg (by omega),if_neg (by omega),Fo.t1,Fo.t2,Fo.t1]
  rw [ht] at hlen ⊢
  have ho:(opn kd).length ≤ 2:=by rcases hk with rfl | rfl | rfl | rfl | rfl <;> decide
  have hlen':a.txt.length + b.txt.length + (opn kd).length + 6 ≤ 4294967296:=by simp at hlen; omega
  have ca:=ih a (by simp) (Fo.oks hoks2 _ (by simp)) (F.sub a (by simp)) (by omega)
  have cb:=ih b (by simp) (Fo.oks hoks2 _ (by simp)) (F.sub b (by simp)) (by omega)
  generalize a.txt = x at *
  generalize b.txt = y at *
  generalize opn kd = w at *
  have s1:=so_add (a:=[40,32]) (b:=x) (by simp; omega)
  have s2:=so_add (a:=[40,32] ++ x) (b:=[32]) (by simp; omega)
  have s3:=so_add (a:=[40,32] ++ x ++ [32]) (b:=w) (by simp; omega)
  have s4:=so_add (a:=[40,32] ++ x ++ [32] ++ w) (b:=[32]) (by simp; omega)
  have s5:=so_add (a:=[40,32] ++ x ++ [32] ++ w ++ [32]) (b:=y) (by simp; omega)
  have s6:=so_add (a:=[40,32] ++ x ++ [32] ++ w ++ [32] ++ y) (b:=[32,41]) (by simp; omega)
  generalize [40,32] ++ x = z1 at *
  generalize z1 ++ [32] = z2 at *
  generalize z2 ++ w = z3 at *
  generalize z3 ++ [32] = z4 at *
  generalize z4 ++ y = z5 at *
  generalize z5 ++ [32,41] = z6 at *
  have k1:(kd == (1:Int)) = false:=beq_false_of_ne (by omega)
  have k2:(kd == (2:Int)) = false:=beq_false_of_ne (by omega)
  have k3:(kd == (3:Int)) = false:=beq_false_of_ne (by omega)
  have k9:(kd == (9:Int)) = false:=beq_false_of_ne (by omega)
  have k10:(kd == (10:Int)) = false:=beq_false_of_ne (by omega)
  have k11:(kd == (11:Int)) = false:=beq_false_of_ne (by omega)
  have k12:(kd == (12:Int)) = false:=beq_false_of_ne (by omega)
  obtain ⟨kd1,nm1,ka1,xs1,ty1,kl1,ls1⟩:=a
  obtain ⟨kd2,nm2,ka2,xs2,ty2,kl2,ls2⟩:=b
  rw [Fo.av] at ca cb
  simp only [RS,RT,RZ,Zu,rA,rB,rC,rD,rE,rF,reduceCtorEq,Zw,x49,y49,kd49_0,k49_0,kd49_1,k49_1,kd49_2,k49_2,F49,Fo.avs,Fo.av,k1,k2,k3,k9,k10,k11,k12,ca,cb,hs,s1,s2,s3,s4,s5,s6]
 ·obtain ⟨a,rfl⟩:∃ a,ls = [a]:=List.length_eq_one_iff.1 h0
  have hct:=fun (q:isQ kd = true) => typeText105 hK ty hty (hts q)
  rcases hk with rfl | rfl | rfl | rfl
  ·have ht:(Fo.mk 9 nm ka xs ty kl [a]).txt = [33,32] ++ a.txt:=by rw [Fo.txt]; rfl
   rw [ht] at hlen ⊢
   have hlen':a.txt.length + 2 ≤ 4294967296:=by simp at hlen; omega
   have ca:=ih a (by simp) (Fo.oks hoks2 _ (by simp)) (F.sub a (by simp)) (by omega)
   generalize a.txt = x at *
   have s1:=so_add (a:=[33,32]) (b:=x) (by simp; omega)
   generalize [33,32] ++ x = z1 at *
   obtain ⟨kd1,nm1,ka1,xs1,ty1,kl1,ls1⟩:=a
   rw [Fo.av] at ca
   simp only [RS,RT,RZ,Zu,rA,rB,rC,rD,rE,rF,reduceCtorEq,Zw,x49,y49,kd49_0,k49_0,kd49_1,k49_1,kd49_2,k49_2,F49,Fo.avs,Fo.av,Int.reduceBEq,ca,s1]
  ·have ht:(Fo.mk 10 nm ka xs ty kl [a]).txt = [97,108,108,32,58,32] ++ ty.txt ++ [32,46,32] ++ a.txt:=by rw [Fo.txt]; rfl
   rw [ht] at hlen ⊢
   have hlen':ty.txt.length + a.txt.length + 3 + ([97,108,108,32,58,32]:List Nat).length ≤ 4294967296:=by simp at hlen; simp; omega
   have ca:=ih a (by simp) (Fo.oks hoks2 _ (by simp)) (F.sub a (by simp)) (by omega)
   have ct:Ret Q 105 [.agg [.str ty.nm,.slice ty.k (Ty.avs ty.xs)]] (.str ty.txt):=by
    have:=hct rfl (by omega)
    obtain ⟨t1,t2,t3⟩:=ty
    exact this
   generalize a.txt = x at *
   generalize ty.txt = y at *
   have s1:=so_add (a:=[97,108,108,32,58,32]) (b:=y) (by simp at hlen'; simp; omega)
   have s2:=so_add (a:=[97,108,108,32,58,32] ++ y) (b:=[32,46,32]) (by simp at hlen'; simp; omega)
   have s3:=so_add (a:=[97,108,108,32,58,32] ++ y ++ [32,46,32]) (b:=x) (by simp at hlen'; simp; omega)
   generalize [97,108,108,32,58,32] ++ y = z1 at *
   generalize z1 ++ [32,46,32] = z2 at *
   generalize z2 ++ x = z3 at *
   obtain ⟨kd1,nm1,ka1,xs1,ty1,kl1,ls1⟩:=a
   rw [Fo.av] at ca
   simp only [RS,RT,RZ,Zu,rA,rB,rC,rD,rE,rF,reduceCtorEq,Zw,x49,y49,kd49_0,k49_0,kd49_1,k49_1,kd49_2,k49_2,F49,Fo.avs,Fo.av,Int.reduceBEq,ca,ct,s1,s2,s3]
  ·have ht:(Fo.mk 11 nm ka xs ty kl [a]).txt = [101,120,32,58,32] ++ ty.txt ++ [32,46,32] ++ a.txt:=by rw [Fo.txt]; rfl
   rw [ht] at hlen ⊢
   have hlen':ty.txt.length + a.txt.length + 3 + ([101,120,32,58,32]:List Nat).length ≤ 4294967296:=by simp at hlen; simp; omega
   have ca:=ih a (by simp) (Fo.oks hoks2 _ (by simp)) (F.sub a (by simp)) (by omega)
   have ct:Ret Q 105 [.agg [.str ty.nm,.slice ty.k (Ty.avs ty.xs)]] (.str ty.txt):=by
    have:=hct rfl (by omega)
    obtain ⟨t1,t2,t3⟩:=ty
    exact this
   generalize a.txt = x at *
   generalize ty.txt = y at *
   have s1:=so_add (a:=[101,120,32,58,32]) (b:=y) (by simp at hlen'; simp; omega)
   have s2:=so_add (a:=[101,120,32,58,32] ++ y) (b:=[32,46,32]) (by simp at hlen'; simp; omega)
   have s3:=so_add (a:=[101,120,32,58,32] ++ y ++ [32,46,32]) (b:=x) (by simp at hlen'; simp; omega)
   generalize [101,120,32,58,32] ++ y = z1 at *
   generalize z1 ++ [32,46,32] = z2 at *
   generalize z2 ++ x = z3 at *
   obtain ⟨kd1,nm1,ka1,xs1,ty1,kl1,ls1⟩:=a
   rw [Fo.av] at ca
   simp only [RS,RT,RZ,Zu,rA,rB,rC,rD,rE,rF,reduceCtorEq,Zw,x49,y49,kd49_0,k49_0,kd49_1,k49_1,kd49_2,k49_2,F49,Fo.avs,Fo.av,Int.reduceBEq,ca,ct,s1,s2,s3]
  ·have ht:(Fo.mk 12 nm ka xs ty kl [a]).txt = [123,32] ++ a.txt ++ [32,125]:=by rw [Fo.txt]; rfl
   rw [ht] at hlen ⊢
   have hlen':a.txt.length + 2 ≤ 4294967296:=by simp at hlen; omega
   have ca:=ih a (by simp) (Fo.oks hoks2 _ (by simp)) (F.sub a (by simp)) (by omega)
   generalize a.txt = x at *
   have s1:=so_add (a:=[123,32]) (b:=x) (by simp; omega)
   have s2:=so_add (a:=[123,32] ++ x) (b:=[32,125]) (by simp at hlen; simp; omega)
   generalize [123,32] ++ x = z1 at *
   generalize z1 ++ [32,125] = z2 at *
   obtain ⟨kd1,nm1,ka1,xs1,ty1,kl1,ls1⟩:=a
   rw [Fo.av] at ca
   simp only [RS,RT,RZ,Zu,rA,rB,rC,rD,rE,rF,reduceCtorEq,Zw,x49,y49,kd49_0,k49_0,kd49_1,k49_1,kd49_2,k49_2,F49,Fo.avs,Fo.av,Int.reduceBEq,ca,s1,s2]
def Fo.text (f:Fo):List Nat:=if rawFo f = 0 then (if 20000 < f.txt.length then [] else f.txt) else []
theorem rtext12 {f:Fo} (hok:f.Ok) (hlen:f.txt.length ≤ 4294967296):Ret Q 12 [f.av] (.str f.text):=fun st => by
 refine callY (N:=13) (ok12 hK) (hK.nx _ _ _ rfl) rfl rfl ?_
 have h1:=rraw8 hK hok
 have h2:=fun (r:rawFo f = 0) => text49 hK f hok (raw_shp r) hlen
 unfold Fo.text
 generalize rawFo f = x at *
 generalize f.txt = z at *
 obtain ⟨kd,nm,ka,xs,ty,kl,ls⟩:=f
 simp only [Fo.av] at h1 h2
 by_cases r:x = 0
 ·have e1:(x != (0:Int)) = false:=by simpa using r
  have h3:=h2 r
  rw [if_pos r]
  by_cases hb:20000 < z.length
  ·have e2:=decT (show (20000:Int) < (z.length:Int) by omega)
   rw [if_pos hb]
   simp only [RS,RT,RZ,Zu,rA,rB,rC,rD,rE,rF,reduceCtorEq,Zw,x12,F12,Fo.av,h1,h3,e1,e2]
  ·have e2:=decF (show ¬ (20000:Int) < (z.length:Int) by omega)
   rw [if_neg hb]
   simp only [RS,RT,RZ,Zu,rA,rB,rC,rD,rE,rF,reduceCtorEq,Zw,x12,F12,Fo.av,h1,h3,e1,e2]
 ·have e1:(x != (0:Int)) = true:=by simpa using r
  rw [if_neg r]
  simp only [RS,RT,RZ,Zu,rA,rB,rC,rD,rE,rF,reduceCtorEq,Zw,x12,F12,Fo.av,h1,e1]
end
end Go.Proofs.L06

namespace Go.Proofs.L06
open Go Go.AE
open Nat renaming reduceLT → rA,reduceLeDiff → rB,reduceEqDiff → rC,reduceMul → rD,reduceAdd → rE,reduceSub → rF
theorem flat_app:∀ a b:Toks,L06.flat (a ++ b) = L06.flat a ++ L06.flat b
 | [],b => rfl
 | s :: a,b => by simp [L06.flat,flat_app a b]
theorem Ty.txt_flat (t:Ty):t.shp = true → 32 :: t.txt = L06.flat t.toks:=by
 induction t using Ty.ind with
 | _ nm k xs ih =>
 intro h
 by_cases h0:xs = []
 ·subst h0
  rw [Ty.txt,Ty.toks]
  simp [L06.flat]
 ·obtain ⟨a,b,rfl,ha,hb,rfl⟩:=shp_two h h0
  have i1:=ih a (by simp) ha
  have i2:=ih b (by simp) hb
  rw [Ty.txt,Ty.toks,if_neg (by simp),if_pos (by simp),Ty.t1,Ty.t2,Ty.t1,Ty.hd,Ty.hd2,Ty.hd]
  simp only [L06.flat,flat_app,← i1,← i2]
  simp
theorem Tm.axt_flat:∀ (xs:List Tm),(∀ x ∈ xs,32 :: x.txt = L06.flat x.toks) → (∀ x ∈ xs,x.lamA = !x.isNil) → Tm.axt xs = L06.flat (Tm.args xs)
 | [],_,_ => rfl
 | x :: r,h,g => by
  have i1:=h x (by simp)
  have i2:=g x (by simp)
  rw [Tm.axt,Tm.args,Tm.axt_flat r (fun y hy => h y (List.mem_cons_of_mem _ hy)) (fun y hy => g y (List.mem_cons_of_mem _ hy)),flat_app,i2]
  cases x.isNil with
  | true => simp [← i1]
  | false => simp [L06.flat,flat_app,← i1]
theorem lamA_nil {t:Tm} (h:t.shp = true):t.lamA = !t.isNil:=by
 obtain ⟨kd,n,nm,k,xs⟩:=t
 rw [Tm.lamA,Tm.isNil]
 by_cases h5:kd = 5
 ·subst h5
  rw [Tm.shp,Bool.and_eq_true,show nodeT 5 n nm xs.length = ((n == 0) && ((nm == []) && ((xs.length:Int) == 1))) from rfl] at h
  simp only [Bool.and_eq_true,beq_iff_eq] at h
  cases xs with
  | nil => simp at h
  | cons _ _ => rfl
 ·rw [show (kd == 5) = false from beq_false_of_ne h5,Bool.false_or]
theorem Tm.txt_flat (t:Tm):t.shp = true → 32 :: t.txt = L06.flat t.toks:=by
 induction t using Tm.ind with
 | _ kd n nm k xs ih =>
 intro h
 have hs:=h
 rw [Tm.shp,Bool.and_eq_true,Tm.shps_all,List.all_eq_true] at hs
 by_cases h5:kd = 5
 ·subst h5
  have hN:=hs.1
  rw [show nodeT 5 n nm xs.length = ((n == 0) && ((nm == []) && ((xs.length:Int) == 1))) from rfl] at hN
  simp only [Bool.and_eq_true,beq_iff_eq] at hN
  obtain ⟨a,rfl⟩:∃ a,xs = [a]:=List.length_eq_one_iff.1 (by omega)
  have i1:=ih a (by simp) (hs.2 a (by simp))
  rw [Tm.txt,Tm.toks,if_pos rfl,if_pos rfl,Tm.x1,Tm.hd]
  simp [L06.flat,← i1]
 ·rw [Tm.txt,Tm.toks,if_neg h5,if_neg h5,L06.flat,Tm.axt_flat xs (fun x hx => ih x hx (hs.2 x hx)) (fun x hx => lamA_nil (hs.2 x hx))]
theorem Fo.txt_flat (f:Fo):f.shp = true → 32 :: f.txt = L06.flat f.toks:=by
 induction f using Fo.ind with
 | _ kd nm ka xs ty kl ls ih =>
 intro h
 have F:=shp_facts h
 have hts:=fun q => shp_ty h q
 rcases prts_kd F.pr with ⟨h0,hk⟩ | ⟨h0,hk⟩ | ⟨h0,hk⟩
 ·rcases hk with rfl | rfl | rfl
  ·rw [Fo.txt,Fo.toks,if_pos rfl,if_pos rfl,L06.flat,Tm.axt_flat xs (fun x hx => Tm.txt_flat x (rawTm_shp (F.raw rfl x hx))) (fun x hx => lamA_nil (rawTm_shp (F.raw rfl x hx)))]
  ·rw [Fo.txt,Fo.toks]; rfl
  ·rw [Fo.txt,Fo.toks]; rfl
 ·obtain ⟨a,b,rfl⟩:∃ a b,ls = [a,b]:=by
   match ls,h0 with
   | [a,b],_ => exact ⟨a,b,rfl⟩
  have i1:=ih a (by simp) (F.sub a (by simp))
  have i2:=ih b (by simp) (F.sub b (by simp))
  rw [Fo.txt,Fo.toks,if_neg (by omega),if_neg (by omega),if_neg (by omega),if_neg (by omega),if_neg (by omega),if_neg (by omega),if_neg (by omega),if_neg (by omega),if_neg (by omega),if_neg (by omega),if_neg (by omega),if_neg (by omega),if_neg (by omega),Fo.t1,Fo.t2,Fo.t1,Fo.hd,Fo.hd2,Fo.hd]
  simp only [L06.flat,flat_app,← i1,← i2]
  simp
 ·obtain ⟨a,rfl⟩:∃ a,ls = [a]:=List.length_eq_one_iff.1 h0
  have i1:=ih a (by simp) (F.sub a (by simp))
  rcases hk with rfl | rfl | rfl | rfl
  ·rw [Fo.txt,Fo.toks]; simp [Fo.t1,Fo.hd,L06.flat,← i1]
  ·have i2:=Ty.txt_flat ty (hts rfl)
   rw [Fo.txt,Fo.toks]; simp [Fo.t1,Fo.hd,L06.flat,flat_app,← i1,← i2,qnt]
  ·have i2:=Ty.txt_flat ty (hts rfl)
   rw [Fo.txt,Fo.toks]; simp [Fo.t1,Fo.hd,L06.flat,flat_app,← i1,← i2,qnt]
  ·rw [Fo.txt,Fo.toks]; simp [Fo.t1,Fo.hd,L06.flat,flat_app,← i1]
end Go.Proofs.L06

namespace Go.Proofs.L06
open Go Go.AE
open Nat renaming reduceLT → rA,reduceLeDiff → rB,reduceEqDiff → rC,reduceMul → rD,reduceAdd → rE,reduceSub → rF
section
variable {Q:Ctx} (hK:K Q)
include hK
theorem put_stepE {p:Nat} {b s:List Nat} {st:St} (hb:Buf p st b) (hl:(putT b s).length ≤ Tera) (h:0 < b.length) :
  ∃ st' s1,callW Q (.fn 174) [.ptr p 0,.str [32]] .normal st = some (.ret (.tuple [.int .i64 1,.nilif]),s1,none) ∧ callW Q (.fn 174) [.ptr p 0,.str s] .normal s1 = some (.ret (.tuple [.int .i64 (s.length:Int),.nilif]),st',none) ∧
   WB p st st' ∧ Buf p st' (putT b s) ∧ p ∈ st'.log:=by
 unfold putT at hl ⊢
 simp only [if_pos h] at hl ⊢
 simp only [List.length_append,List.length_cons,List.length_nil] at hl
 obtain ⟨s1,c1,c2,c3,c4,_⟩:=str174 hK (s:=[32]) hb (by simp; omega)
 obtain ⟨s2,d1,d2,d3,d4,_⟩:=str174 hK (s:=s) c3 (by simp; omega)
 refine ⟨s2,s1,c1,d1,c2.trans d2,d3,?_⟩
 rcases c4 with c4 | c4
 ·exact d2.keep p c4
 ·have:=congrArg List.length c4
  simp at this
end
end Go.Proofs.L06

namespace Go.Proofs.L06
open Go Go.AE
open Nat renaming reduceLT → rA,reduceLeDiff → rB,reduceEqDiff → rC,reduceMul → rD,reduceAdd → rE,reduceSub → rF
set_option maxHeartbeats 8000000
def PutsN (Q:Ctx) (f:FuncId) (args:List AV) (p:Nat) (l:Toks):Prop :=
 ∀ st b,0 < b.length → Buf p st b → (puts b l).length ≤ Tera → ∃ st',callW Q (.fn f) args .normal st = some (.ret (.tuple []),st',none) ∧ WB p st st' ∧ Buf p st' (puts b l) ∧ (p ∈ st'.log ∨ puts b l = b) ∧ ∀ l ∈ st'.log,l ∈ st.log ∨ l < st.next
theorem PutsN.goN {Q:Ctx} {f:FuncId} {args:List AV} {p:Nat} {l:Toks} (h:PutsN Q f args p l) {a s:St} {b0 b:List Nat} (hs:Step p a b0 s b) (hp0:0 < b.length) (hl:(puts b l).length ≤ Tera) :
  ∃ h1 n1 l1,callW Q (.fn f) args .normal s = some (.ret (.tuple []),⟨h1,n1,l1⟩,none) ∧ Step p a b0 ⟨h1,n1,l1⟩ (puts b l) ∧ (∀ q t cs z,q < s.next → q ≠ p → s.heap q = .mem t cs true z → h1 q = .mem t cs true z) ∧ s.next ≤ n1:=by
 obtain ⟨⟨h1,n1,l1⟩,c1,c2,c3,c4,_⟩:=h s b hp0 hs.bf hl
 refine ⟨h1,n1,l1,c1,⟨hs.w.trans c2,c3,?_⟩,c2.heap,c2.next⟩
 rcases c4 with c4 | c4
 ·exact .inl c4
 ·rw [c4]
  exact hs.m.imp (c2.keep p) id
section
variable {Q:Ctx} (hK:K Q)
include hK
theorem put101N {p:Nat} {l:Toks} (hn:l.length < 1000):PutsN Q 101 [.ptr p 0,.slice .exact (strsA l)] p l:=by
 intro st b hp0 hb hl
 refine wb_end (N:=27) (ok101 hK) (hK.nx _ _ _ rfl) rfl hb (fun _ => rfl) rfl ?_
 simp only [RS,RT,RZ,Zu,rA,rB,rC,rD,rE,rF,reduceCtorEq,Zw,x101,y101,F101,strsA_len]
 refine post_bind (post_for (I:=fun i T st1 => T 0 = .ptr p 0 ∧ T 6 = .slice .exact (strsA l) ∧ T 7 = .int .i64 (l.length:Int) ∧ T 8 = .int .i64 (i:Int) ∧ WB p ⟨st.heap,st.next,[]⟩ st1 ∧ Buf p st1 (puts b (l.take i)) ∧ (0 < i → p ∈ st1.log))
  (Q:=fun e T st1 => e = .exit 0 ∧ WB p ⟨st.heap,st.next,[]⟩ st1 ∧ Buf p st1 (puts b l) ∧ (p ∈ st1.log ∨ puts b l = b)) l.length ?_ ?_ (Nat.zero_le _) ?_) ?_
 ·rintro i T ⟨h,nx,lg⟩ hi ⟨t0,t6,t7,t8,hw,hbf,hm⟩
  obtain ⟨x,hx⟩:∃ x,l[i]? = some x:=⟨_,List.getElem?_eq_getElem hi⟩
  have hxm:=List.mem_of_getElem? hx
  have hi2:=wrapUp (show i < 9223372036854775807 by omega)
  have hnx:=hw.next
  have hpl:=hb.lt
  simp only at hnx
  have e:puts b (l.take (i + 1)) = putT (puts b (l.take i)) x:=by rw [List.take_add_one,hx,puts_app]; rfl
  have hle:(putT (puts b (l.take i)) x).length ≤ Tera:=by
   rw [← e]
   refine Nat.le_trans ?_ hl
   conv => rhs; rw [← List.take_append_drop (i + 1) l]
   rw [puts_app]
   exact puts_ge _ _
  have hz:0 < (puts b (l.take i)).length:=Nat.lt_of_lt_of_le hp0 (puts_ge _ _)
  obtain ⟨⟨h2,n2,l2⟩,⟨h3,n3,l3⟩,d1,d2,c2,c3,c4⟩:=put_stepE hK (s:=x) hbf hle hz
  have c0:=len47 hK hbf
  have hget:=strsA_get hx
  rw [← e] at c3
  have hz':=decT (show (0:Int) < ((puts b (l.take i)).length:Int) by omega)
  simp only [RS,RT,RZ,Zu,rA,rB,rC,rD,rE,rF,reduceCtorEq,Zw,l101_0,m101_0,t0,t6,t7,t8,hi,hget,hi2,c0,d1,d2,hz,hz']
  exact ⟨hw.trans c2,c3,fun _ => c4⟩
 ·rintro T ⟨h,nx,lg⟩ ⟨t0,t6,t7,t8,hw,hbf,hm⟩
  rw [List.take_length] at hbf
  simp only [RS,RT,RZ,Zu,rA,rB,rC,rD,rE,rF,reduceCtorEq,Zw,l101_0,m101_0,t0,t6,t7,t8]
  refine ⟨hw,hbf,?_⟩
  cases l with
  | nil => exact .inr rfl
  | cons x l => exact .inl (hm (by simp))
 ·simp only [RS,RT,RZ,Zu,rA,rB,rC,rD,rE,rF,reduceCtorEq,Zw,]
  exact ⟨WB.refl _,hb.log,fun h => h.elim⟩
 ·rintro e T ⟨h,nx,lg⟩ ⟨rfl,hw,hbf,hm⟩
  simp only [RS,RT,RZ,Zu,rA,rB,rC,rD,rE,rF,reduceCtorEq,Zw,]
  exact ⟨hw,hbf,hm⟩
theorem put1N {p:Nat} {s:List Nat}:PutsN Q 101 [.ptr p 0,.slice .exact [.str s]] p [s]:=put101N hK (l:=[s]) (by simp)
theorem typ103N {p:Nat} (t:Ty):t.Ok → t.shp = true → PutsN Q 103 [.ptr p 0,t.av] p t.toks:=by
 induction t using Ty.ind with
 | _ nm k xs ih =>
 intro hok hsh st b hp0 hb hle
 refine wb_end (N:=34) (ok103 hK) (hK.nx _ _ _ rfl) rfl hb (fun _ => rfl) rfl ?_
 have hpl:=hb.lt
 obtain ⟨_,_,hl,hoks⟩:=hok
 have hs0:=(Step.refl (b:=b) (a:=⟨st.heap,st.next,[]⟩) hb.log).box (o:=.mem 25 [.str nm,.slice k (Ty.avs xs)] true 0) hpl
 have l0:st.next < st.next + 1:=by omega
 rw [Ty.toks] at hle ⊢
 by_cases hx0:xs = []
 ·have e:xs.length = 0:=by rw [hx0]; rfl
  rw [if_neg (by omega)] at hle ⊢
  obtain ⟨h1,n1,lg1,c1,c2,c3,c4⟩:=(put1N hK (p:=p) (s:=nm)).goN hs0 hp0 hle
  have e2:((xs.length:Int) != 2) = true:=by rw [bne_iff_ne]; omega
  simp only [RS,RT,RZ,Zu,rA,rB,rC,rD,rE,rF,reduceCtorEq,Zw,x103,F103,Ty.av,Ty.len,e2,c1,l0]
  exact ⟨c2.w,c2.bf,c2.m⟩
 ·obtain ⟨x,y,rfl,sx,sy,rfl⟩:=shp_two hsh hx0
  have e:([x,y]:List Ty).length = 2:=rfl
  rw [if_pos e] at hle ⊢
  have hx:=ih x (by simp) (Ty.oks hoks x (by simp)) sx
  have hy:=ih y (by simp) (Ty.oks hoks y (by simp)) sy
  simp only [Ty.hd,Ty.hd2] at hle ⊢
  rw [show ([40] :: (x.toks ++ [45,62] :: (y.toks ++ [[41]]))) = ((([[40]] ++ x.toks) ++ [[45,62]]) ++ y.toks) ++ [[41]] by simp] at hle ⊢
  have q1:=puts_pre hle
  have q2:=puts_pre q1
  have q3:=puts_pre q2
  have q4:=puts_pre q3
  obtain ⟨h1,n1,lg1,c1,c2,c3,c4⟩:=(put1N hK (p:=p) (s:=[40])).goN hs0 (by first | exact hp0 | exact Nat.lt_of_lt_of_le hp0 (puts_ge _ _)) q4
  simp only at c3 c4
  have g1:=c3 st.next _ _ _ (by omega) (by omega) (upd_same ..)
  have m1:st.next < n1:=by omega
  rw [puts_app] at q3
  obtain ⟨h2,n2,lg2,d1,d2,d3,d4⟩:=hx.goN c2 (by first | exact hp0 | exact Nat.lt_of_lt_of_le hp0 (puts_ge _ _)) q3
  simp only at d3 d4
  have g2:=d3 st.next _ _ _ m1 (by omega) g1
  have m2:st.next < n2:=by omega
  rw [← puts_app] at d2
  rw [puts_app] at q2
  obtain ⟨h3,n3,lg3,f1,f2,f3,f4⟩:=(put1N hK (p:=p) (s:=[45,62])).goN d2 (by first | exact hp0 | exact Nat.lt_of_lt_of_le hp0 (puts_ge _ _)) q2
  simp only at f3 f4
  have g3:=f3 st.next _ _ _ m2 (by omega) g2
  have m3:st.next < n3:=by omega
  rw [← puts_app] at f2
  rw [puts_app] at q1
  obtain ⟨h4,n4,lg4,i1,i2,i3,i4⟩:=hy.goN f2 (by first | exact hp0 | exact Nat.lt_of_lt_of_le hp0 (puts_ge _ _)) q1
  simp only at i3 i4
  have g4:=i3 st.next _ _ _ m3 (by omega) g3
  have m4:st.next < n4:=by omega
  rw [← puts_app] at i2
  rw [puts_app] at hle
  obtain ⟨h5,n5,lg5,j1,j2,j3,j4⟩:=(put1N hK (p:=p) (s:=[41])).goN i2 (by first | exact hp0 | exact Nat.lt_of_lt_of_le hp0 (puts_ge _ _)) hle
  rw [← puts_app] at j2
  have hg0:(Ty.avs [x,y])[0]? = some x.av:=rfl
  have hg1:(Ty.avs [x,y])[1]? = some y.av:=rfl
  have hln:(Ty.avs [x,y]).length = 2:=rfl
  obtain ⟨nm1,k1,xs1⟩:=x
  obtain ⟨nm2,k2,xs2⟩:=y
  rw [Ty.av]
  generalize Ty.avs [Ty.mk nm1 k1 xs1,Ty.mk nm2 k2 xs2] = es at *
  simp only [Ty.av] at hg0 hg1 d1 i1
  simp only [RS,RT,RZ,Zu,rA,rB,rC,rD,rE,rF,reduceCtorEq,Zw,x103,F103,Ty.av,hln,hg0,hg1,Int.reduceBNe,Int.reduceBEq,bne_self_eq_false,c1,d1,f1,i1,j1,g1,g2,g3,g4,m1,m2,m3,m4,l0]
  exact ⟨j2.w,j2.bf,j2.m⟩
end
end Go.Proofs.L06

namespace Go.Proofs.L06
open Go Go.AE
open Nat renaming reduceLT → rA,reduceLeDiff → rB,reduceEqDiff → rC,reduceMul → rD,reduceAdd → rE,reduceSub → rF
set_option maxHeartbeats 8000000
mutual
def Fo.Tz:Fo → Prop
 | .mk kd nm _ xs ty _ ls => parts kd = (ls.length:Int) ∧ (kd = 1 → nm ≠ [] ∧ Tm.shps xs = true) ∧ (kd = 10 ∨ kd = 11 → ty.shp = true) ∧ Fo.Tzs ls
def Fo.Tzs:List Fo → Prop | [] => True | t :: r => t.Tz ∧ Fo.Tzs r
end
theorem puts_pos2 (b:List Nat) (s:List Nat) (l:Toks) (h:s ≠ []):0 < (puts b (s :: l)).length:=by
 rw [puts,List.foldl_cons]
 refine Nat.lt_of_lt_of_le ?_ (puts_ge _ _)
 rw [putT,List.length_append]
 have:=List.length_pos_iff.2 h
 omega
section
variable {Q:Ctx} (hK:K Q) (hI:∀ n:Int,0 ≤ n → n ≤ 100000 → Ret Q 241 [.int .i64 n] (.str (dig n.toNat)))
include hK hI
theorem form46N {p:Nat} (f:Fo):f.Ok → f.Tz → Puts Q 46 [.ptr p 0,f.av] p f.toks:=by
 induction f using Fo.ind with
 | _ kd nm ka xs ty kl ls ih =>
 intro hok htx st b hb hle
 refine wb_end (N:=102) (ok46 hK) (hK.nx _ _ _ rfl) rfl hb (fun _ => rfl) rfl ?_
 have hpl:=hb.lt
 obtain ⟨_,hnm,_,hl,hoks,hty,_,hl2,hoks2⟩:=hok
 simp only [Fo.Tz] at htx
 have hs0:=(Step.refl (b:=b) (a:=⟨st.heap,st.next,[]⟩) hb.log).box (o:=.mem 28 [.int .i64 kd,.str nm,.slice ka (Tm.avs xs),.str ty.nm,.slice ty.k (Ty.avs ty.xs),.slice kl (Fo.avs ls)] true 0) hpl
 have l0:st.next < st.next + 1:=by omega
 have pc:=parts_cases htx.1
 rw [toks_eq] at hle ⊢
 rcases pc with ⟨rfl | rfl | rfl,hp⟩ | ⟨e,hp⟩ | ⟨rfl | rfl | rfl | rfl,hp⟩
 ·have hargs:=args102 hK (p:=p) (k:=ka) hl (fun x hx => term175 hK hI x (Tm.oks hoks x hx) (List.all_eq_true.1 (by rw [← Tm.shps_all]; exact (htx.2.1 rfl).2) x hx))
  rw [show (ftok 1 nm :: frest 1 xs ty ls) = ([nm]) ++ Tm.args xs from rfl] at hle ⊢
  have q1:=puts_pre hle
  obtain ⟨h1,n1,lg1,c1,c1s,c1k,c1n⟩:=(put1 hK (p:=p) (s:=nm) (htx.2.1 rfl).1).go hs0 q1
  simp only at c1k c1n
  have g1:=c1k st.next _ _ _ (by omega) (by omega) (upd_same ..)
  have m1:st.next < n1:=by omega
  rw [puts_app] at hle
  obtain ⟨h2,n2,lg2,c2,c2s,c2k,c2n⟩:=(hargs).go c1s hle
  rw [← puts_app] at c2s
  simp only at c2k c2n
  have g2:=c2k st.next _ _ _ (by omega) (by omega) g1
  have m2:st.next < n2:=by omega
  rw [Fo.av]
  simp only [RS,RT,RZ,Zu,rA,rB,rC,rD,rE,rF,reduceCtorEq,Zw,x46,F46,Int.reduceBEq,c1,c2,g1,g2,m1,m2,l0]
  exact ⟨c2s.w,c2s.bf,c2s.m⟩
 ·rw [show (ftok 2 nm :: frest 2 xs ty ls) = [[111,110,101]] from rfl] at hle ⊢
  obtain ⟨h1,n1,lg1,c1,c1s,c1k,c1n⟩:=(put1 hK (p:=p) (s:=[111,110,101]) (by decide)).go hs0 hle
  simp only at c1k c1n
  have g1:=c1k st.next _ _ _ (by omega) (by omega) (upd_same ..)
  have m1:st.next < n1:=by omega
  rw [Fo.av]
  simp only [RS,RT,RZ,Zu,rA,rB,rC,rD,rE,rF,reduceCtorEq,Zw,x46,F46,Int.reduceBEq,c1,g1,m1,l0]
  exact ⟨c1s.w,c1s.bf,c1s.m⟩
 ·rw [show (ftok 3 nm :: frest 3 xs ty ls) = [[116,111,112]] from rfl] at hle ⊢
  obtain ⟨h1,n1,lg1,c1,c1s,c1k,c1n⟩:=(put1 hK (p:=p) (s:=[116,111,112]) (by decide)).go hs0 hle
  simp only at c1k c1n
  have g1:=c1k st.next _ _ _ (by omega) (by omega) (upd_same ..)
  have m1:st.next < n1:=by omega
  rw [Fo.av]
  simp only [RS,RT,RZ,Zu,rA,rB,rC,rD,rE,rF,reduceCtorEq,Zw,x46,F46,Int.reduceBEq,c1,g1,m1,l0]
  exact ⟨c1s.w,c1s.bf,c1s.m⟩
 ·obtain ⟨x,y,rfl⟩:∃ x y,ls = [x,y]:=by
   match ls,hp with
   | [x,y],_ => exact ⟨x,y,rfl⟩
  simp only [Fo.Tzs] at htx
  have hx:=ih x (by simp) (Fo.oks hoks2 x (by simp)) htx.2.2.2.1
  have hy:=ih y (by simp) (Fo.oks hoks2 y (by simp)) htx.2.2.2.2.1
  have i0:=fun {h:Nat → AO} {nx m:Nat} {lg:List Nat} (hm:h m = .amap [] 0) => map_ins0 hK (nx:=nx) (lg:=lg) (a:=4) (s:=[42]) hm
  have i1:=fun {h:Nat → AO} {nx m:Nat} {lg:List Nat} (hm:h m = .lmap (mapL [(4,[42])])) => map_ins hK (nx:=nx) (lg:=lg) (a:=5) (s:=[38]) hm rfl
  simp only [List.cons_append,List.nil_append] at i1
  have i2:=fun {h:Nat → AO} {nx m:Nat} {lg:List Nat} (hm:h m = .lmap (mapL [(4,[42]),(5,[38])])) => map_ins hK (nx:=nx) (lg:=lg) (a:=6) (s:=[43]) hm rfl
  simp only [List.cons_append,List.nil_append] at i2
  have i3:=fun {h:Nat → AO} {nx m:Nat} {lg:List Nat} (hm:h m = .lmap (mapL [(4,[42]),(5,[38]),(6,[43])])) => map_ins hK (nx:=nx) (lg:=lg) (a:=7) (s:=[45,111]) hm rfl
  simp only [List.cons_append,List.nil_append] at i3
  have i4:=fun {h:Nat → AO} {nx m:Nat} {lg:List Nat} (hm:h m = .lmap (mapL [(4,[42]),(5,[38]),(6,[43]),(7,[45,111])])) => map_ins hK (nx:=nx) (lg:=lg) (a:=8) (s:=[61,62]) hm rfl
  simp only [List.cons_append,List.nil_append] at i4
  have hg0:(Fo.avs [x,y])[0]? = some x.av:=rfl
  have hg1:(Fo.avs [x,y])[1]? = some y.av:=rfl
  rw [show ftok kd nm = [40] by rcases e with rfl | rfl | rfl | rfl | rfl <;> rfl,frest_two e] at hle ⊢
  simp only [Fo.hd,Fo.hd2] at hle ⊢
  rcases e with rfl | rfl | rfl | rfl | rfl
  ·rw [show ([40] :: (x.toks ++ opn 4 :: (y.toks ++ [[41]]))) = (((([[40]]) ++ x.toks) ++ [[42]]) ++ y.toks) ++ [[41]] by simp [opn]] at hle ⊢
   have q1:=puts_pre hle
   have q2:=puts_pre q1
   have q3:=puts_pre q2
   have q4:=puts_pre q3
   obtain ⟨h1,n1,lg1,c1,c1s,c1k,c1n⟩:=(put1 hK (p:=p) (s:=[40]) (by decide)).go hs0 q4
   simp only at c1k c1n
   have g1:=c1k st.next _ _ _ (by omega) (by omega) (upd_same ..)
   have m1:st.next < n1:=by omega
   rw [puts_app] at q3
   obtain ⟨h2,n2,lg2,c2,c2s,c2k,c2n⟩:=(hx).go c1s q3
   rw [← puts_app] at c2s
   simp only at c2k c2n
   have g2:=c2k st.next _ _ _ (by omega) (by omega) g1
   have m2:st.next < n2:=by omega
   rw [puts_app] at q2
   obtain ⟨h3,n3,lg3,c3,c3s,c3k,c3n⟩:=(put1 hK (p:=p) (s:=[42]) (by decide)).go (Step.relog ((c2s).box (o:=.lmap (mapL [(4,[42]),(5,[38]),(6,[43]),(7,[45,111]),(8,[61,62])])) hpl) (lg2:=n2 :: n2 :: n2 :: n2 :: n2 :: lg2) (fun l hl => relogN (k:=5) (by omega) (by show st.next ≤ n2; omega) l hl) (fun l hl => by simp [hl])) q2
   rw [← puts_app] at c3s
   simp only at c3k c3n
   have g3:=c3k st.next _ _ _ (by omega) (by omega) (by rw [upd_ne _ _ (by omega)]; exact g2)
   have m3:st.next < n3:=by omega
   rw [puts_app] at q1
   obtain ⟨h4,n4,lg4,c4,c4s,c4k,c4n⟩:=(hy).go c3s q1
   rw [← puts_app] at c4s
   simp only at c4k c4n
   have g4:=c4k st.next _ _ _ (by omega) (by omega) g3
   have m4:st.next < n4:=by omega
   rw [puts_app] at hle
   obtain ⟨h5,n5,lg5,c5,c5s,c5k,c5n⟩:=(put1 hK (p:=p) (s:=[41]) (by decide)).go c4s hle
   rw [← puts_app] at c5s
   simp only at c5k c5n
   have g5:=c5k st.next _ _ _ (by omega) (by omega) g4
   have m5:st.next < n5:=by omega
   obtain ⟨kd1,nm1,ka1,xs1,ty1,kl1,ls1⟩:=x
   obtain ⟨kd2,nm2,ka2,xs2,ty2,kl2,ls2⟩:=y
   rw [Fo.av]
   generalize Fo.avs [Fo.mk kd1 nm1 ka1 xs1 ty1 kl1 ls1,Fo.mk kd2 nm2 ka2 xs2 ty2 kl2 ls2] = es at *
   simp only [Fo.av] at hg0 hg1 c2 c4
   have ig:=fun {h:Nat → AO} {nx m:Nat} {lg:List Nat} (hm:h m = .lmap (mapL [(4,[42]),(5,[38]),(6,[43]),(7,[45,111]),(8,[61,62])])) => map_get hK (nx:=nx) (lg:=lg) (a:=4) (i:=0) (s:=[42]) hm rfl
   simp only [RS,RT,RZ,Zu,rA,rB,rC,rD,rE,rF,reduceCtorEq,Zw,x46,F46,Int.reduceBEq,c1,c2,c3,c4,c5,g1,g2,g3,g4,g5,m1,m2,m3,m4,m5,l0,hg0,hg1,(show (st.next = n2) = False from eq_false (by omega)),(show st.next < n2 + 1 by omega),ofI,of4,of5,of6,of7,of8,upd_same,i0,i1,i2,i3,i4,ig]
   exact ⟨c5s.w,c5s.bf,c5s.m⟩
  ·rw [show ([40] :: (x.toks ++ opn 5 :: (y.toks ++ [[41]]))) = (((([[40]]) ++ x.toks) ++ [[38]]) ++ y.toks) ++ [[41]] by simp [opn]] at hle ⊢
   have q1:=puts_pre hle
   have q2:=puts_pre q1
   have q3:=puts_pre q2
   have q4:=puts_pre q3
   obtain ⟨h1,n1,lg1,c1,c1s,c1k,c1n⟩:=(put1 hK (p:=p) (s:=[40]) (by decide)).go hs0 q4
   simp only at c1k c1n
   have g1:=c1k st.next _ _ _ (by omega) (by omega) (upd_same ..)
   have m1:st.next < n1:=by omega
   rw [puts_app] at q3
   obtain ⟨h2,n2,lg2,c2,c2s,c2k,c2n⟩:=(hx).go c1s q3
   rw [← puts_app] at c2s
   simp only at c2k c2n
   have g2:=c2k st.next _ _ _ (by omega) (by omega) g1
   have m2:st.next < n2:=by omega
   rw [puts_app] at q2
   obtain ⟨h3,n3,lg3,c3,c3s,c3k,c3n⟩:=(put1 hK (p:=p) (s:=[38]) (by decide)).go (Step.relog ((c2s).box (o:=.lmap (mapL [(4,[42]),(5,[38]),(6,[43]),(7,[45,111]),(8,[61,62])])) hpl) (lg2:=n2 :: n2 :: n2 :: n2 :: n2 :: lg2) (fun l hl => relogN (k:=5) (by omega) (by show st.next ≤ n2; omega) l hl) (fun l hl => by simp [hl])) q2
   rw [← puts_app] at c3s
   simp only at c3k c3n
   have g3:=c3k st.next _ _ _ (by omega) (by omega) (by rw [upd_ne _ _ (by omega)]; exact g2)
   have m3:st.next < n3:=by omega
   rw [puts_app] at q1
   obtain ⟨h4,n4,lg4,c4,c4s,c4k,c4n⟩:=(hy).go c3s q1
   rw [← puts_app] at c4s
   simp only at c4k c4n
   have g4:=c4k st.next _ _ _ (by omega) (by omega) g3
   have m4:st.next < n4:=by omega
   rw [puts_app] at hle
   obtain ⟨h5,n5,lg5,c5,c5s,c5k,c5n⟩:=(put1 hK (p:=p) (s:=[41]) (by decide)).go c4s hle
   rw [← puts_app] at c5s
   simp only at c5k c5n
   have g5:=c5k st.next _ _ _ (by omega) (by omega) g4
   have m5:st.next < n5:=by omega
   obtain ⟨kd1,nm1,ka1,xs1,ty1,kl1,ls1⟩:=x
   obtain ⟨kd2,nm2,ka2,xs2,ty2,kl2,ls2⟩:=y
   rw [Fo.av]
   generalize Fo.avs [Fo.mk kd1 nm1 ka1 xs1 ty1 kl1 ls1,Fo.mk kd2 nm2 ka2 xs2 ty2 kl2 ls2] = es at *
   simp only [Fo.av] at hg0 hg1 c2 c4
   have ig:=fun {h:Nat → AO} {nx m:Nat} {lg:List Nat} (hm:h m = .lmap (mapL [(4,[42]),(5,[38]),(6,[43]),(7,[45,111]),(8,[61,62])])) => map_get hK (nx:=nx) (lg:=lg) (a:=5) (i:=1) (s:=[38]) hm rfl
   simp only [RS,RT,RZ,Zu,rA,rB,rC,rD,rE,rF,reduceCtorEq,Zw,x46,F46,Int.reduceBEq,c1,c2,c3,c4,c5,g1,g2,g3,g4,g5,m1,m2,m3,m4,m5,l0,hg0,hg1,(show (st.next = n2) = False from eq_false (by omega)),(show st.next < n2 + 1 by omega),ofI,of4,of5,of6,of7,of8,upd_same,i0,i1,i2,i3,i4,ig]
   exact ⟨c5s.w,c5s.bf,c5s.m⟩
  ·rw [show ([40] :: (x.toks ++ opn 6 :: (y.toks ++ [[41]]))) = (((([[40]]) ++ x.toks) ++ [[43]]) ++ y.toks) ++ [[41]] by simp [opn]] at hle ⊢
   have q1:=puts_pre hle
   have q2:=puts_pre q1
   have q3:=puts_pre q2
   have q4:=puts_pre q3
   obtain ⟨h1,n1,lg1,c1,c1s,c1k,c1n⟩:=(put1 hK (p:=p) (s:=[40]) (by decide)).go hs0 q4
   simp only at c1k c1n
   have g1:=c1k st.next _ _ _ (by omega) (by omega) (upd_same ..)
   have m1:st.next < n1:=by omega
   rw [puts_app] at q3
   obtain ⟨h2,n2,lg2,c2,c2s,c2k,c2n⟩:=(hx).go c1s q3
   rw [← puts_app] at c2s
   simp only at c2k c2n
   have g2:=c2k st.next _ _ _ (by omega) (by omega) g1
   have m2:st.next < n2:=by omega
   rw [puts_app] at q2
   obtain ⟨h3,n3,lg3,c3,c3s,c3k,c3n⟩:=(put1 hK (p:=p) (s:=[43]) (by decide)).go (Step.relog ((c2s).box (o:=.lmap (mapL [(4,[42]),(5,[38]),(6,[43]),(7,[45,111]),(8,[61,62])])) hpl) (lg2:=n2 :: n2 :: n2 :: n2 :: n2 :: lg2) (fun l hl => relogN (k:=5) (by omega) (by show st.next ≤ n2; omega) l hl) (fun l hl => by simp [hl])) q2
   rw [← puts_app] at c3s
   simp only at c3k c3n
   have g3:=c3k st.next _ _ _ (by omega) (by omega) (by rw [upd_ne _ _ (by omega)]; exact g2)
   have m3:st.next < n3:=by omega
   rw [puts_app] at q1
   obtain ⟨h4,n4,lg4,c4,c4s,c4k,c4n⟩:=(hy).go c3s q1
   rw [← puts_app] at c4s
   simp only at c4k c4n
   have g4:=c4k st.next _ _ _ (by omega) (by omega) g3
   have m4:st.next < n4:=by omega
   rw [puts_app] at hle
   obtain ⟨h5,n5,lg5,c5,c5s,c5k,c5n⟩:=(put1 hK (p:=p) (s:=[41]) (by decide)).go c4s hle
   rw [← puts_app] at c5s
   simp only at c5k c5n
   have g5:=c5k st.next _ _ _ (by omega) (by omega) g4
   have m5:st.next < n5:=by omega
   obtain ⟨kd1,nm1,ka1,xs1,ty1,kl1,ls1⟩:=x
   obtain ⟨kd2,nm2,ka2,xs2,ty2,kl2,ls2⟩:=y
   rw [Fo.av]
   generalize Fo.avs [Fo.mk kd1 nm1 ka1 xs1 ty1 kl1 ls1,Fo.mk kd2 nm2 ka2 xs2 ty2 kl2 ls2] = es at *
   simp only [Fo.av] at hg0 hg1 c2 c4
   have ig:=fun {h:Nat → AO} {nx m:Nat} {lg:List Nat} (hm:h m = .lmap (mapL [(4,[42]),(5,[38]),(6,[43]),(7,[45,111]),(8,[61,62])])) => map_get hK (nx:=nx) (lg:=lg) (a:=6) (i:=2) (s:=[43]) hm rfl
   simp only [RS,RT,RZ,Zu,rA,rB,rC,rD,rE,rF,reduceCtorEq,Zw,x46,F46,Int.reduceBEq,c1,c2,c3,c4,c5,g1,g2,g3,g4,g5,m1,m2,m3,m4,m5,l0,hg0,hg1,(show (st.next = n2) = False from eq_false (by omega)),(show st.next < n2 + 1 by omega),ofI,of4,of5,of6,of7,of8,upd_same,i0,i1,i2,i3,i4,ig]
   exact ⟨c5s.w,c5s.bf,c5s.m⟩
  ·rw [show ([40] :: (x.toks ++ opn 7 :: (y.toks ++ [[41]]))) = (((([[40]]) ++ x.toks) ++ [[45,111]]) ++ y.toks) ++ [[41]] by simp [opn]] at hle ⊢
   have q1:=puts_pre hle
   have q2:=puts_pre q1
   have q3:=puts_pre q2
   have q4:=puts_pre q3
   obtain ⟨h1,n1,lg1,c1,c1s,c1k,c1n⟩:=(put1 hK (p:=p) (s:=[40]) (by decide)).go hs0 q4
   simp only at c1k c1n
   have g1:=c1k st.next _ _ _ (by omega) (by omega) (upd_same ..)
   have m1:st.next < n1:=by omega
   rw [puts_app] at q3
   obtain ⟨h2,n2,lg2,c2,c2s,c2k,c2n⟩:=(hx).go c1s q3
   rw [← puts_app] at c2s
   simp only at c2k c2n
   have g2:=c2k st.next _ _ _ (by omega) (by omega) g1
   have m2:st.next < n2:=by omega
   rw [puts_app] at q2
   obtain ⟨h3,n3,lg3,c3,c3s,c3k,c3n⟩:=(put1 hK (p:=p) (s:=[45,111]) (by decide)).go (Step.relog ((c2s).box (o:=.lmap (mapL [(4,[42]),(5,[38]),(6,[43]),(7,[45,111]),(8,[61,62])])) hpl) (lg2:=n2 :: n2 :: n2 :: n2 :: n2 :: lg2) (fun l hl => relogN (k:=5) (by omega) (by show st.next ≤ n2; omega) l hl) (fun l hl => by simp [hl])) q2
   rw [← puts_app] at c3s
   simp only at c3k c3n
   have g3:=c3k st.next _ _ _ (by omega) (by omega) (by rw [upd_ne _ _ (by omega)]; exact g2)
   have m3:st.next < n3:=by omega
   rw [puts_app] at q1
   obtain ⟨h4,n4,lg4,c4,c4s,c4k,c4n⟩:=(hy).go c3s q1
   rw [← puts_app] at c4s
   simp only at c4k c4n
   have g4:=c4k st.next _ _ _ (by omega) (by omega) g3
   have m4:st.next < n4:=by omega
   rw [puts_app] at hle
   obtain ⟨h5,n5,lg5,c5,c5s,c5k,c5n⟩:=(put1 hK (p:=p) (s:=[41]) (by decide)).go c4s hle
   rw [← puts_app] at c5s
   simp only at c5k c5n
   have g5:=c5k st.next _ _ _ (by omega) (by omega) g4
   have m5:st.next < n5:=by omega
   obtain ⟨kd1,nm1,ka1,xs1,ty1,kl1,ls1⟩:=x
   obtain ⟨kd2,nm2,ka2,xs2,ty2,kl2,ls2⟩:=y
   rw [Fo.av]
   generalize Fo.avs [Fo.mk kd1 nm1 ka1 xs1 ty1 kl1 ls1,Fo.mk kd2 nm2 ka2 xs2 ty2 kl2 ls2] = es at *
   simp only [Fo.av] at hg0 hg1 c2 c4
   have ig:=fun {h:Nat → AO} {nx m:Nat} {lg:List Nat} (hm:h m = .lmap (mapL [(4,[42]),(5,[38]),(6,[43]),(7,[45,111]),(8,[61,62])])) => map_get hK (nx:=nx) (lg:=lg) (a:=7) (i:=3) (s:=[45,111]) hm rfl
   simp only [RS,RT,RZ,Zu,rA,rB,rC,rD,rE,rF,reduceCtorEq,Zw,x46,F46,Int.reduceBEq,c1,c2,c3,c4,c5,g1,g2,g3,g4,g5,m1,m2,m3,m4,m5,l0,hg0,hg1,(show (st.next = n2) = False from eq_false (by omega)),(show st.next < n2 + 1 by omega),ofI,of4,of5,of6,of7,of8,upd_same,i0,i1,i2,i3,i4,ig]
   exact ⟨c5s.w,c5s.bf,c5s.m⟩
  ·rw [show ([40] :: (x.toks ++ opn 8 :: (y.toks ++ [[41]]))) = (((([[40]]) ++ x.toks) ++ [[61,62]]) ++ y.toks) ++ [[41]] by simp [opn]] at hle ⊢
   have q1:=puts_pre hle
   have q2:=puts_pre q1
   have q3:=puts_pre q2
   have q4:=puts_pre q3
   obtain ⟨h1,n1,lg1,c1,c1s,c1k,c1n⟩:=(put1 hK (p:=p) (s:=[40]) (by decide)).go hs0 q4
   simp only at c1k c1n
   have g1:=c1k st.next _ _ _ (by omega) (by omega) (upd_same ..)
   have m1:st.next < n1:=by omega
   rw [puts_app] at q3
   obtain ⟨h2,n2,lg2,c2,c2s,c2k,c2n⟩:=(hx).go c1s q3
   rw [← puts_app] at c2s
   simp only at c2k c2n
   have g2:=c2k st.next _ _ _ (by omega) (by omega) g1
   have m2:st.next < n2:=by omega
   rw [puts_app] at q2
   obtain ⟨h3,n3,lg3,c3,c3s,c3k,c3n⟩:=(put1 hK (p:=p) (s:=[61,62]) (by decide)).go (Step.relog ((c2s).box (o:=.lmap (mapL [(4,[42]),(5,[38]),(6,[43]),(7,[45,111]),(8,[61,62])])) hpl) (lg2:=n2 :: n2 :: n2 :: n2 :: n2 :: lg2) (fun l hl => relogN (k:=5) (by omega) (by show st.next ≤ n2; omega) l hl) (fun l hl => by simp [hl])) q2
   rw [← puts_app] at c3s
   simp only at c3k c3n
   have g3:=c3k st.next _ _ _ (by omega) (by omega) (by rw [upd_ne _ _ (by omega)]; exact g2)
   have m3:st.next < n3:=by omega
   rw [puts_app] at q1
   obtain ⟨h4,n4,lg4,c4,c4s,c4k,c4n⟩:=(hy).go c3s q1
   rw [← puts_app] at c4s
   simp only at c4k c4n
   have g4:=c4k st.next _ _ _ (by omega) (by omega) g3
   have m4:st.next < n4:=by omega
   rw [puts_app] at hle
   obtain ⟨h5,n5,lg5,c5,c5s,c5k,c5n⟩:=(put1 hK (p:=p) (s:=[41]) (by decide)).go c4s hle
   rw [← puts_app] at c5s
   simp only at c5k c5n
   have g5:=c5k st.next _ _ _ (by omega) (by omega) g4
   have m5:st.next < n5:=by omega
   obtain ⟨kd1,nm1,ka1,xs1,ty1,kl1,ls1⟩:=x
   obtain ⟨kd2,nm2,ka2,xs2,ty2,kl2,ls2⟩:=y
   rw [Fo.av]
   generalize Fo.avs [Fo.mk kd1 nm1 ka1 xs1 ty1 kl1 ls1,Fo.mk kd2 nm2 ka2 xs2 ty2 kl2 ls2] = es at *
   simp only [Fo.av] at hg0 hg1 c2 c4
   have ig:=fun {h:Nat → AO} {nx m:Nat} {lg:List Nat} (hm:h m = .lmap (mapL [(4,[42]),(5,[38]),(6,[43]),(7,[45,111]),(8,[61,62])])) => map_get hK (nx:=nx) (lg:=lg) (a:=8) (i:=4) (s:=[61,62]) hm rfl
   simp only [RS,RT,RZ,Zu,rA,rB,rC,rD,rE,rF,reduceCtorEq,Zw,x46,F46,Int.reduceBEq,c1,c2,c3,c4,c5,g1,g2,g3,g4,g5,m1,m2,m3,m4,m5,l0,hg0,hg1,(show (st.next = n2) = False from eq_false (by omega)),(show st.next < n2 + 1 by omega),ofI,of4,of5,of6,of7,of8,upd_same,i0,i1,i2,i3,i4,ig]
   exact ⟨c5s.w,c5s.bf,c5s.m⟩
 ·obtain ⟨x,rfl⟩:∃ x,ls = [x]:=by
   match ls,hp with
   | [x],_ => exact ⟨x,rfl⟩
  simp only [Fo.Tzs] at htx
  have hx:=ih x (by simp) (Fo.oks hoks2 x (by simp)) htx.2.2.2.1
  rw [show (ftok 9 nm :: frest 9 xs ty [x]) = ([[33]]) ++ x.toks from rfl] at hle ⊢
  have q1:=puts_pre hle
  obtain ⟨h1,n1,lg1,c1,c1s,c1k,c1n⟩:=(put1 hK (p:=p) (s:=[33]) (by decide)).go hs0 q1
  simp only at c1k c1n
  have g1:=c1k st.next _ _ _ (by omega) (by omega) (upd_same ..)
  have m1:st.next < n1:=by omega
  rw [puts_app] at hle
  obtain ⟨h2,n2,lg2,c2,c2s,c2k,c2n⟩:=(hx).go c1s hle
  rw [← puts_app] at c2s
  simp only at c2k c2n
  have g2:=c2k st.next _ _ _ (by omega) (by omega) g1
  have m2:st.next < n2:=by omega
  have hg0:(Fo.avs [x])[0]? = some x.av:=rfl
  obtain ⟨kd1,nm1,ka1,xs1,ty1,kl1,ls1⟩:=x
  rw [Fo.av]
  generalize Fo.avs [Fo.mk kd1 nm1 ka1 xs1 ty1 kl1 ls1] = es at *
  simp only [Fo.av] at hg0 c2
  simp only [RS,RT,RZ,Zu,rA,rB,rC,rD,rE,rF,reduceCtorEq,Zw,x46,F46,Int.reduceBEq,c1,c2,g1,g2,m1,m2,l0,hg0]
  exact ⟨c2s.w,c2s.bf,c2s.m⟩
 ·obtain ⟨x,rfl⟩:∃ x,ls = [x]:=by
   match ls,hp with
   | [x],_ => exact ⟨x,rfl⟩
  simp only [Fo.Tzs] at htx
  have hx:=ih x (by simp) (Fo.oks hoks2 x (by simp)) htx.2.2.2.1
  have i0:=fun {h:Nat → AO} {nx m:Nat} {lg:List Nat} (hm:h m = .amap [] 0) => map_ins0 hK (nx:=nx) (lg:=lg) (a:=10) (s:=[97,108,108]) hm
  have i1:=fun {h:Nat → AO} {nx m:Nat} {lg:List Nat} (hm:h m = .lmap (mapL [(10,[97,108,108])])) => map_ins hK (nx:=nx) (lg:=lg) (a:=11) (s:=[101,120]) hm rfl
  simp only [List.cons_append,List.nil_append] at i1
  have ht:=typ103N hK (p:=p) ty hty (htx.2.2.1 (by decide))
  rw [show (ftok 10 nm :: frest 10 xs ty [x]) = ((([[97,108,108],[58]]) ++ ty.toks) ++ [[46]]) ++ x.toks by simp [ftok,frest,Fo.hd]] at hle ⊢
  have q1:=puts_pre hle
  have q2:=puts_pre q1
  have q3:=puts_pre q2
  obtain ⟨h1,n1,lg1,c1,c1s,c1k,c1n⟩:=(put2 hK (p:=p) (s:=[97,108,108]) (s':=[58]) (by decide) (by decide)).go (Step.relog ((hs0).box (o:=.lmap (mapL [(10,[97,108,108]),(11,[101,120])])) hpl) (lg2:=[st.next + 1,st.next + 1]) (fun l hl => relogN (n:=st.next + 1) (k:=2) (lg:=[]) (by omega) (by show st.next ≤ st.next + 1; omega) l hl) (fun l hl => by simp at hl)) q3
  simp only at c1k c1n
  have g1:=c1k st.next _ _ _ (by omega) (by omega) (by rw [upd_ne _ _ (by omega),upd_same])
  have m1:st.next < n1:=by omega
  rw [puts_app] at q2
  obtain ⟨h2,n2,lg2,c2,c2s,c2k,c2n⟩:=ht.goN c1s (by first | exact puts_pos2 _ _ _ (by simp) | exact puts_pos2 _ _ _ (by decide)) q2
  rw [← puts_app] at c2s
  simp only at c2k c2n
  have g2:=c2k st.next _ _ _ (by omega) (by omega) g1
  have m2:st.next < n2:=by omega
  rw [puts_app] at q1
  obtain ⟨h3,n3,lg3,c3,c3s,c3k,c3n⟩:=(put1 hK (p:=p) (s:=[46]) (by decide)).go c2s q1
  rw [← puts_app] at c3s
  simp only at c3k c3n
  have g3:=c3k st.next _ _ _ (by omega) (by omega) g2
  have m3:st.next < n3:=by omega
  rw [puts_app] at hle
  obtain ⟨h4,n4,lg4,c4,c4s,c4k,c4n⟩:=(hx).go c3s hle
  rw [← puts_app] at c4s
  simp only at c4k c4n
  have g4:=c4k st.next _ _ _ (by omega) (by omega) g3
  have m4:st.next < n4:=by omega
  have hg0:(Fo.avs [x])[0]? = some x.av:=rfl
  obtain ⟨kd1,nm1,ka1,xs1,ty1,kl1,ls1⟩:=x
  rw [Fo.av]
  generalize Fo.avs [Fo.mk kd1 nm1 ka1 xs1 ty1 kl1 ls1] = es at *
  obtain ⟨tn,tk,tx⟩:=ty
  obtain ⟨tn1,tk1,tx1⟩:=ty1
  simp only [Ty.nm,Ty.k,Ty.xs] at *
  simp only [Ty.av] at c2
  simp only [Fo.av,Ty.nm,Ty.k,Ty.xs] at hg0 c4
  have ig:=fun {h:Nat → AO} {nx m:Nat} {lg:List Nat} (hm:h m = .lmap (mapL [(10,[97,108,108]),(11,[101,120])])) => map_get hK (nx:=nx) (lg:=lg) (a:=10) (i:=0) (s:=[97,108,108]) hm rfl
  simp only [RS,RT,RZ,Zu,rA,rB,rC,rD,rE,rF,reduceCtorEq,Zw,x46,F46,Int.reduceBEq,c1,c2,c3,c4,g1,g2,g3,g4,m1,m2,m3,m4,l0,hg0,ofI,of1,of2,upd_same,Ty.nm,Ty.k,Ty.xs,i0,i1,ig]
  exact ⟨c4s.w,c4s.bf,c4s.m⟩
 ·obtain ⟨x,rfl⟩:∃ x,ls = [x]:=by
   match ls,hp with
   | [x],_ => exact ⟨x,rfl⟩
  simp only [Fo.Tzs] at htx
  have hx:=ih x (by simp) (Fo.oks hoks2 x (by simp)) htx.2.2.2.1
  have i0:=fun {h:Nat → AO} {nx m:Nat} {lg:List Nat} (hm:h m = .amap [] 0) => map_ins0 hK (nx:=nx) (lg:=lg) (a:=10) (s:=[97,108,108]) hm
  have i1:=fun {h:Nat → AO} {nx m:Nat} {lg:List Nat} (hm:h m = .lmap (mapL [(10,[97,108,108])])) => map_ins hK (nx:=nx) (lg:=lg) (a:=11) (s:=[101,120]) hm rfl
  simp only [List.cons_append,List.nil_append] at i1
  have ht:=typ103N hK (p:=p) ty hty (htx.2.2.1 (by decide))
  rw [show (ftok 11 nm :: frest 11 xs ty [x]) = ((([[101,120],[58]]) ++ ty.toks) ++ [[46]]) ++ x.toks by simp [ftok,frest,Fo.hd]] at hle ⊢
  have q1:=puts_pre hle
  have q2:=puts_pre q1
  have q3:=puts_pre q2
  obtain ⟨h1,n1,lg1,c1,c1s,c1k,c1n⟩:=(put2 hK (p:=p) (s:=[101,120]) (s':=[58]) (by decide) (by decide)).go (Step.relog ((hs0).box (o:=.lmap (mapL [(10,[97,108,108]),(11,[101,120])])) hpl) (lg2:=[st.next + 1,st.next + 1]) (fun l hl => relogN (n:=st.next + 1) (k:=2) (lg:=[]) (by omega) (by show st.next ≤ st.next + 1; omega) l hl) (fun l hl => by simp at hl)) q3
  simp only at c1k c1n
  have g1:=c1k st.next _ _ _ (by omega) (by omega) (by rw [upd_ne _ _ (by omega),upd_same])
  have m1:st.next < n1:=by omega
  rw [puts_app] at q2
  obtain ⟨h2,n2,lg2,c2,c2s,c2k,c2n⟩:=ht.goN c1s (by first | exact puts_pos2 _ _ _ (by simp) | exact puts_pos2 _ _ _ (by decide)) q2
  rw [← puts_app] at c2s
  simp only at c2k c2n
  have g2:=c2k st.next _ _ _ (by omega) (by omega) g1
  have m2:st.next < n2:=by omega
  rw [puts_app] at q1
  obtain ⟨h3,n3,lg3,c3,c3s,c3k,c3n⟩:=(put1 hK (p:=p) (s:=[46]) (by decide)).go c2s q1
  rw [← puts_app] at c3s
  simp only at c3k c3n
  have g3:=c3k st.next _ _ _ (by omega) (by omega) g2
  have m3:st.next < n3:=by omega
  rw [puts_app] at hle
  obtain ⟨h4,n4,lg4,c4,c4s,c4k,c4n⟩:=(hx).go c3s hle
  rw [← puts_app] at c4s
  simp only at c4k c4n
  have g4:=c4k st.next _ _ _ (by omega) (by omega) g3
  have m4:st.next < n4:=by omega
  have hg0:(Fo.avs [x])[0]? = some x.av:=rfl
  obtain ⟨kd1,nm1,ka1,xs1,ty1,kl1,ls1⟩:=x
  rw [Fo.av]
  generalize Fo.avs [Fo.mk kd1 nm1 ka1 xs1 ty1 kl1 ls1] = es at *
  obtain ⟨tn,tk,tx⟩:=ty
  obtain ⟨tn1,tk1,tx1⟩:=ty1
  simp only [Ty.nm,Ty.k,Ty.xs] at *
  simp only [Ty.av] at c2
  simp only [Fo.av,Ty.nm,Ty.k,Ty.xs] at hg0 c4
  have ig:=fun {h:Nat → AO} {nx m:Nat} {lg:List Nat} (hm:h m = .lmap (mapL [(10,[97,108,108]),(11,[101,120])])) => map_get hK (nx:=nx) (lg:=lg) (a:=11) (i:=1) (s:=[101,120]) hm rfl
  simp only [RS,RT,RZ,Zu,rA,rB,rC,rD,rE,rF,reduceCtorEq,Zw,x46,F46,Int.reduceBEq,c1,c2,c3,c4,g1,g2,g3,g4,m1,m2,m3,m4,l0,hg0,ofI,of1,of2,upd_same,Ty.nm,Ty.k,Ty.xs,i0,i1,ig]
  exact ⟨c4s.w,c4s.bf,c4s.m⟩
 ·obtain ⟨x,rfl⟩:∃ x,ls = [x]:=by
   match ls,hp with
   | [x],_ => exact ⟨x,rfl⟩
  simp only [Fo.Tzs] at htx
  have hx:=ih x (by simp) (Fo.oks hoks2 x (by simp)) htx.2.2.2.1
  rw [show (ftok 12 nm :: frest 12 xs ty [x]) = (([[123]]) ++ x.toks) ++ [[125]] from rfl] at hle ⊢
  have q1:=puts_pre hle
  have q2:=puts_pre q1
  obtain ⟨h1,n1,lg1,c1,c1s,c1k,c1n⟩:=(put1 hK (p:=p) (s:=[123]) (by decide)).go hs0 q2
  simp only at c1k c1n
  have g1:=c1k st.next _ _ _ (by omega) (by omega) (upd_same ..)
  have m1:st.next < n1:=by omega
  rw [puts_app] at q1
  obtain ⟨h2,n2,lg2,c2,c2s,c2k,c2n⟩:=(hx).go c1s q1
  rw [← puts_app] at c2s
  simp only at c2k c2n
  have g2:=c2k st.next _ _ _ (by omega) (by omega) g1
  have m2:st.next < n2:=by omega
  rw [puts_app] at hle
  obtain ⟨h3,n3,lg3,c3,c3s,c3k,c3n⟩:=(put1 hK (p:=p) (s:=[125]) (by decide)).go c2s hle
  rw [← puts_app] at c3s
  simp only at c3k c3n
  have g3:=c3k st.next _ _ _ (by omega) (by omega) g2
  have m3:st.next < n3:=by omega
  have hg0:(Fo.avs [x])[0]? = some x.av:=rfl
  obtain ⟨kd1,nm1,ka1,xs1,ty1,kl1,ls1⟩:=x
  rw [Fo.av]
  generalize Fo.avs [Fo.mk kd1 nm1 ka1 xs1 ty1 kl1 ls1] = es at *
  simp only [Fo.av] at hg0 c2
  simp only [RS,RT,RZ,Zu,rA,rB,rC,rD,rE,rF,reduceCtorEq,Zw,x46,F46,Int.reduceBEq,c1,c2,c3,g1,g2,g3,m1,m2,m3,l0,hg0]
  exact ⟨c3s.w,c3s.bf,c3s.m⟩
end
end Go.Proofs.L06

namespace Go.Proofs.L06
open Go Go.AE
open Nat renaming reduceLT → rA,reduceLeDiff → rB,reduceEqDiff → rC,reduceMul → rD,reduceAdd → rE,reduceSub → rF
set_option maxHeartbeats 8000000
theorem shp_tz (f:Fo):f.shp = true → f.Tz:=by
 induction f using Fo.ind with
 | _ kd nm ka xs ty kl ls ih =>
 intro h
 have F:=shp_facts h
 rw [Fo.Tz]
 refine ⟨?_,fun k1 => ⟨?_,?_⟩,fun k => ?_,?_⟩
 ·rw [← F.pr]; rfl
 ·have h2:=h
  rw [Fo.shp,if_pos k1,atomN] at h2
  simp only [Bool.and_eq_true] at h2
  rintro rfl
  have:=h2.2.1.1
  exact absurd this (by decide)
 ·rw [Tm.shps_all,List.all_eq_true]
  exact fun x hx => rawTm_shp (F.raw k1 x hx)
 ·exact shp_ty h (by rcases k with rfl | rfl <;> rfl)
 ·have:∀ l:List Fo,(∀ x ∈ l,x.Tz) → Fo.Tzs l:=fun l => by
   induction l with
   | nil => intro _; simp only [Fo.Tzs]
   | cons x r ihr => intro g; simp only [Fo.Tzs]; exact ⟨g x (by simp),ihr fun y hy => g y (List.mem_cons_of_mem _ hy)⟩
  exact this ls fun x hx => ih x hx (F.sub x hx)
section
variable {Q:Ctx} (hK:K Q) (hI:∀ n:Int,0 ≤ n → n ≤ 100000 → Ret Q 241 [.int .i64 n] (.str (dig n.toNat)))
include hK hI
theorem text11N {f:Fo} (hok:f.Ok) (htz:f.Tz) (hr:rawFo f = 0) (hlen:(puts [] f.toks).length ≤ Tera) (hbyte:∀ c ∈ puts [] f.toks,c < 256):Ret Q 11 [f.av] (.str (textF f)):=fun st => by
 refine callY (N:=21) (ok11 hK) (hK.nx _ _ _ rfl) rfl rfl ?_
 have h1:=rawFo_c hK hok
 rw [hr] at h1
 obtain ⟨s0,hs0⟩:∃ s0:St,s0 = ⟨upd (upd st.heap st.next (.mem 28 f.av.cells true 0)) (st.next + 1) (.mem 98 [.nilp,.slice .nil []] true 0),st.next + 2,[]⟩:=⟨_,rfl⟩
 have hB:Buf (st.next + 1) s0 []:=by
  rw [hs0]
  exact ⟨by simp only; omega,.nilp,.slice .nil [],by simp only; rw [upd_same],.inl rfl,.inl ⟨rfl,rfl⟩⟩
 obtain ⟨h1',n1,lg1,c1,c2,c3,c4⟩:=(form46N hK hI f hok htz).go (Step.refl hB) hlen
 have c5:=c2.w.log
 have g1:=len47 hK c2.bf
 have m1:st.next + 1 < n1:=c2.bf.lt
 have l0:st.next < st.next + 2:=by omega
 have lgs:∀ q ∈ lg1,st.next ≤ q:=fun q hq => by
  rcases c5 q hq with h | ⟨h,_⟩
  ·rw [hs0] at h; cases h
  ·omega
 unfold textF
 rw [hs0] at c1
 generalize hpt:puts [] f.toks = b at *
 obtain ⟨kd,nm,ka,xs,ty,kl,ls⟩:=f
 obtain ⟨tn,tk,tx⟩:=ty
 simp only [RS,RT,RZ,Zu,rA,rB,rC,rD,rE,rF,reduceCtorEq,Zw,Fo.av,AV.cells,Ty.nm,Ty.k,Ty.xs] at h1 c1
 by_cases e:20000 < b.length
 ·have e':=decT (show (20000:Int) < (b.length:Int) by omega)
  rw [if_pos e]
  simp only [RS,RT,RZ,Zu,rA,rB,rC,rD,rE,rF,reduceCtorEq,Zw,x11,F11,Fo.av,Ty.nm,Ty.k,Ty.xs,h1,c1,g1,e',e,l0]
  exact lgs
 ·have e':=decF (show ¬ (20000:Int) < (b.length:Int) by omega)
  rw [if_neg e]
  obtain ⟨⟨h2,n2,lg2⟩,d1,d2⟩:=str48 hK c2.bf (by omega) hbyte
  simp only [RS,RT,RZ,Zu,rA,rB,rC,rD,rE,rF,reduceCtorEq,Zw,x11,F11,Fo.av,Ty.nm,Ty.k,Ty.xs,h1,c1,g1,e',e,l0,d1]
  intro q hq
  rcases d2 q hq with h | h
  ·exact lgs q h
  ·omega
end
end Go.Proofs.L06

namespace Go.Proofs.L06
open Go Go.AE
open Nat renaming reduceLT → rA,reduceLeDiff → rB,reduceEqDiff → rC,reduceMul → rD,reduceAdd → rE,reduceSub → rF
set_option maxHeartbeats 8000000
theorem puts_hd {s:List Nat} {r:Toks} (h:s ≠ []):puts [] (s :: r) = s ++ L06.flat r:=by
 have e:puts [] (s :: r) = puts s r:=by
  rw [puts,List.foldl_cons]
  rfl
 rw [e,puts_flat r s h]
theorem puts_txt {f:Fo} (h:f.shp = true):puts [] f.toks = f.txt:=by
 have h1:=Fo.txt_flat f h
 have ⟨s,r,e,hs⟩:∃ s r,f.toks = s :: r ∧ s ≠ []:=by
  obtain ⟨kd,nm,ka,xs,ty,kl,ls⟩:=f
  have F:=shp_facts h
  have T:=shp_tz _ h
  rw [Fo.Tz] at T
  rw [Fo.toks]
  split
  ·rename_i k; exact ⟨_,_,rfl,(T.2.1 k).1⟩
  ·split
   ·exact ⟨_,_,rfl,by simp⟩
   ·split
    ·exact ⟨_,_,rfl,by simp⟩
    ·split
     ·exact ⟨_,_,rfl,by simp⟩
     ·split
      ·exact ⟨_,_,rfl,by simp⟩
      ·split
       ·rename_i k; exact ⟨_,_,rfl,by rcases k with rfl | rfl <;> decide⟩
       ·exact ⟨_,_,rfl,by simp⟩
 rw [e] at h1 ⊢
 rw [puts_hd hs]
 rw [L06.flat] at h1
 exact ((List.cons.injEq ..).mp h1).2.symm
section
variable {Q:Ctx} (hK:K Q) (hI:∀ n:Int,0 ≤ n → n ≤ 100000 → Ret Q 241 [.int .i64 n] (.str (dig n.toNat)))
include hK hI
theorem ptext11 {f:Fo} (hok:f.Ok) (hlen:f.txt.length ≤ Tera) (hbyte:∀ c ∈ f.txt,c < 256):Ret Q 11 [f.av] (.str f.text):=fun st => by
 by_cases r:rawFo f = 0
 ·have hs:=raw_shp r
  have e:=puts_txt hs
  have:=text11N hK hI hok (shp_tz f hs) r (by rw [e]; exact hlen) (by rw [e]; exact hbyte) st
  rw [textF,e] at this
  rw [Fo.text,if_pos r]
  exact this
 ·refine callY (N:=21) (ok11 hK) (hK.nx _ _ _ rfl) rfl rfl ?_
  have h1:=rawFo_c hK hok
  rw [Fo.text,if_neg r]
  generalize rawFo f = x at *
  obtain ⟨kd,nm,ka,xs,ty,kl,ls⟩:=f
  simp only [Fo.av] at h1
  have e1:(x != (0:Int)) = true:=by simpa using r
  simp only [RS,RT,RZ,Zu,rA,rB,rC,rD,rE,rF,reduceCtorEq,Zw,x11,F11,Fo.av,h1,e1]
end
end Go.Proofs.L06

namespace Go.Proofs.L06
open Go Go.AE
open Nat renaming reduceLT → rA,reduceLeDiff → rB,reduceEqDiff → rC,reduceMul → rD,reduceAdd → rE,reduceSub → rF
theorem BStr.app {a b:List Nat} (h:BStr a) (k:BStr b):BStr (a ++ b):=fun c hc => by
 rcases List.mem_append.1 hc with hc | hc
 ·exact h c hc
 ·exact k c hc
theorem BStr.lit {a:List Nat} (h:(a.all fun c => decide (c < 256)) = true):BStr a:=fun c hc => by
 have:=List.all_eq_true.1 h c hc
 simpa using this
theorem Ty.byte (t:Ty):t.Ok → BStr t.txt:=by
 induction t using Ty.ind with
 | _ nm k xs ih =>
 intro hok
 obtain ⟨hs,_,_,hoks⟩:=hok
 have h1:BStr (Ty.t1 xs):=by
  cases xs with
  | nil => exact BStr.lit rfl
  | cons x r => exact ih x (by simp) (Ty.oks hoks x (by simp))
 have h2:BStr (Ty.t2 xs):=by
  cases xs with
  | nil => exact BStr.lit rfl
  | cons x r =>
   cases r with
   | nil => exact BStr.lit rfl
   | cons y r => exact ih y (by simp) (Ty.oks hoks y (by simp))
 rw [Ty.txt]
 split
 ·exact hs
 ·exact ((((BStr.lit rfl).app h1).app (BStr.lit rfl)).app h2).app (BStr.lit rfl)
theorem dig_byte (n:Nat):BStr (dig n):=fun c hc => by have:=dig_mem n c hc; omega
theorem axt_byte:∀ (xs:List Tm),(∀ x ∈ xs,BStr x.txt) → BStr (Tm.axt xs)
 | [],_ => by rw [Tm.axt]; exact BStr.lit rfl
 | x :: r,h => by
  have hx:=h x (by simp)
  rw [Tm.axt]
  refine BStr.app ?_ (axt_byte r fun y hy => h y (List.mem_cons_of_mem _ hy))
  split
  ·exact ((BStr.lit rfl).app hx).app (BStr.lit rfl)
  ·exact (BStr.lit rfl).app hx
theorem Tm.byte (t:Tm):t.Ok → BStr t.txt:=by
 induction t using Tm.ind with
 | _ kd n nm k xs ih =>
 intro hok
 obtain ⟨_,_,hs,_,_,hoks⟩:=hok
 have hx:∀ x ∈ xs,BStr x.txt:=fun x hx => ih x hx (Tm.oks hoks x hx)
 rw [Tm.txt]
 split
 ·refine (BStr.lit rfl).app ?_
  cases xs with
  | nil => exact BStr.lit rfl
  | cons x r => exact hx x (by simp)
 ·refine BStr.app ?_ (axt_byte xs hx)
  unfold htok
  split
  ·exact hs
  ·refine BStr.app ?_ (dig_byte _)
   unfold ltr
   repeat' split
   all_goals exact BStr.lit rfl
theorem Fo.byte (f:Fo):f.Ok → BStr f.txt:=by
 induction f using Fo.ind with
 | _ kd nm ka xs ty kl ls ih =>
 intro hok
 obtain ⟨_,hs,_,_,hoks,hty,_,_,hoks2⟩:=hok
 have h1:BStr (Fo.t1 ls):=by
  cases ls with
  | nil => exact BStr.lit rfl
  | cons x r => exact ih x (by simp) (Fo.oks hoks2 x (by simp))
 have h2:BStr (Fo.t2 ls):=by
  cases ls with
  | nil => exact BStr.lit rfl
  | cons x r =>
   cases r with
   | nil => exact BStr.lit rfl
   | cons y r => exact ih y (by simp) (Fo.oks hoks2 y (by simp))
 have h3:=Ty.byte ty hty
 have h4:BStr (opn kd):=by
  unfold opn
  repeat' split
  all_goals exact BStr.lit rfl
 rw [Fo.txt]
 repeat' split
 ·exact hs.app (axt_byte xs fun x hx => Tm.byte x (Tm.oks hoks x hx))
 ·exact BStr.lit rfl
 ·exact BStr.lit rfl
 ·exact (BStr.lit rfl).app h1
 ·exact ((BStr.lit rfl).app h1).app (BStr.lit rfl)
 ·exact (((BStr.lit rfl).app h3).app (BStr.lit rfl)).app h1
 ·exact (((BStr.lit rfl).app h3).app (BStr.lit rfl)).app h1
 ·exact ((((((BStr.lit rfl).app h1).app (BStr.lit rfl)).app h4).app (BStr.lit rfl)).app h2).app (BStr.lit rfl)
end Go.Proofs.L06

namespace Go.Proofs.L06
open Go Go.AE
open Nat renaming reduceLT → rA,reduceLeDiff → rB,reduceEqDiff → rC,reduceMul → rD,reduceAdd → rE,reduceSub → rF
set_option maxHeartbeats 8000000
section
variable {Q:Ctx} (hK:K Q) (hS:Ret Q 6 [] (.bool true)) (hI:∀ n:Int,0 ≤ n → n ≤ 100000 → Ret Q 241 [.int .i64 n] (.str (dig n.toNat)))
include hK hS hI
theorem raws_c {f g:Fo} (hf:f.Ok) (hg:g.Ok) (hlen:f.txt.length ≤ 4294967296):Ret Q 3 [f.av,g.av] (.bool true):=fun st => by
 refine callY (N:=49) (ok3 hK) (hK.nx _ _ _ rfl) rfl rfl ?_
 have r1:=rawFo_c hK hf
 have r2:=rraw8 hK hf
 have s1:=size_c hK hf
 have s2:=size10 hK hf
 have t1:=ptext11 hK hI hf (by unfold Tera; omega) (Fo.byte f hf)
 have t2:=rtext12 hK hf hlen
 have m1:=psame13 hK hf hg
 have m2:=rsame14 hK hf hg
 have c1:=pcmp15 hK hf hg
 have c2:=rcmp16 hK hf hg
 generalize rawFo f = x at *
 generalize sizeT f = y at *
 generalize f.text = z at *
 generalize (if x = 0 then (if rawFo g = 0 then sg (f.cmp g) else 1) else (if rawFo g = 0 then -1 else 0)) = u at *
 generalize ((x == 0) && ((rawFo g == 0) && (f.cmp g == 0))) = v at *
 have e1:(x == x) = true:=by simp
 have e2:((y:Int) == (y:Int)) = true:=by simp
 have e3:(z == z) = true:=by simp
 have e4:(u == u) = true:=by simp
 have e5:(v == v) = true:=by simp
 obtain ⟨kd,nm,ka,xs,ty,kl,ls⟩:=f
 obtain ⟨kd',nm',ka',xs',ty',kl',ls'⟩:=g
 simp only [Fo.av] at r1 r2 s1 s2 t1 t2 m1 m2 c1 c2
 simp only [RS,RT,RZ,Zu,rA,rB,rC,rD,rE,rF,reduceCtorEq,Zw,x3,y3,kd3_0,k3_0,kd3_1,k3_1,F3,Fo.av,hS,r1,r2,s1,s2,t1,t2,m1,m2,c1,c2,e1,e2,e3,e4,e5,binA_bb (tw4 hK)]
end
end Go.Proofs.L06

namespace Go.Proofs.L06
open Go Go.AE
mutual
def Ty.wt:Ty → Nat | .mk nm _ xs => nm.length + 3 + Ty.wts xs
def Ty.wts:List Ty → Nat | [] => 0 | t :: r => t.wt + Ty.wts r
end
mutual
def Tm.wt:Tm → Nat | .mk _ _ nm _ xs => nm.length + 5 + Tm.wts xs
def Tm.wts:List Tm → Nat | [] => 0 | t :: r => t.wt + Tm.wts r
end
mutual
def Fo.wt:Fo → Nat | .mk _ nm _ xs ty _ ls => nm.length + 5 + Tm.wts xs + ty.wt + Fo.wts ls
def Fo.wts:List Fo → Nat | [] => 0 | t :: r => t.wt + Fo.wts r
end
theorem dig_le (k:Nat):∀ n:Nat,n < 10 ^ (k + 1) → (dig n).length ≤ k + 1:=by
 induction k with
 | zero => intro n h; rw [dig,dif_pos (by omega)]; simp
 | succ k ih =>
  intro n h
  rw [dig]
  split
  ·simp
  ·have:=ih (n / 10) (by rw [Nat.div_lt_iff_lt_mul (by omega)]; rw [Nat.pow_succ] at h; exact h)
   simp; omega
theorem Ty.txt_le (t:Ty):t.txt.length ≤ 4 * t.wt:=by
 induction t using Ty.ind with
 | _ nm k xs ih =>
 rw [Ty.txt,Ty.wt]
 split
 ·omega
 ·have h2:(Ty.t1 xs).length + (Ty.t2 xs).length ≤ 4 * Ty.wts xs:=by
   match xs,ih with
   | [],_ => simp [Ty.t1,Ty.t2]
   | [a],h => have:=h a (by simp); simp [Ty.t1,Ty.t2,Ty.wts]; omega
   | a :: b :: r,h =>
    have h1:=h a (by simp)
    have h3:=h b (by simp)
    simp only [Ty.t1,Ty.t2,Ty.wts]; omega
  simp only [List.length_append,List.length_cons,List.length_nil]
  omega
theorem Tm.txt_le (t:Tm):t.Ok → t.txt.length + 5 ≤ 5 * t.wt:=by
 induction t using Tm.ind with
 | _ kd n nm k xs ih =>
 intro h
 have hn:num n:=h.2.1
 have ho:=h.2.2.2.2.2
 have all:∀ x ∈ xs,x.txt.length + 5 ≤ 5 * x.wt:=fun x hx => ih x hx (Tm.oks ho x hx)
 have hs:(Tm.axt xs).length ≤ 5 * Tm.wts xs:=by
  clear ih ho h
  induction xs with
  | nil => simp [Tm.axt]
  | cons a r ih =>
   have h1:=all a (by simp)
   have h2:=ih fun x hx => all x (by simp [hx])
   rw [Tm.axt,Tm.wts,List.length_append]
   split <;> simp only [List.length_append,List.length_cons,List.length_nil] <;> omega
 rw [Tm.txt,Tm.wt]
 split
 ·have h1:(Tm.x1 xs).length ≤ 5 * Tm.wts xs:=by
   match xs,all with
   | [],_ => simp [Tm.x1]
   | a :: r,all => have:=all a (by simp); simp only [Tm.x1,Tm.wts]; omega
  simp only [List.length_append,List.length_cons,List.length_nil]
  omega
 ·have hd:(htok kd n nm).length ≤ nm.length + 20:=by
   unfold htok
   split
   ·omega
   ·have h1:=dig_le 18 n.toNat (by unfold num at hn; omega)
    have h2:(ltr kd).length ≤ 1:=by unfold ltr; (repeat' split) <;> simp
    rw [List.length_append]; omega
  rw [List.length_append]; omega
theorem axt_wt {xs:List Tm} (h:Tm.Oks xs):(Tm.axt xs).length ≤ 5 * Tm.wts xs:=by
 induction xs with
 | nil => simp [Tm.axt]
 | cons a r ih =>
  rw [Tm.Oks] at h
  have h1:=Tm.txt_le a h.1
  have h2:=ih h.2
  rw [Tm.axt,Tm.wts,List.length_append]
  split <;> simp only [List.length_append,List.length_cons,List.length_nil] <;> omega
theorem Fo.txt_le (f:Fo):f.Ok → f.txt.length ≤ 5 * f.wt:=by
 induction f using Fo.ind with
 | _ kd nm ka xs ty kl ls ih =>
 intro h
 have hxs:Tm.Oks xs:=h.2.2.2.2.1
 have hls:Fo.Oks ls:=h.2.2.2.2.2.2.2.2
 have hx:=axt_wt hxs
 have ht:=Ty.txt_le ty
 have hl:(Fo.t1 ls).length + (Fo.t2 ls).length ≤ 5 * Fo.wts ls:=by
  match ls,ih,hls with
  | [],_,_ => simp [Fo.t1,Fo.t2]
  | [a],ih,h => rw [Fo.Oks] at h; have:=ih a (by simp) h.1; simp [Fo.t1,Fo.t2,Fo.wts]; omega
  | a :: b :: r,ih,h =>
   rw [Fo.Oks,Fo.Oks] at h
   have h1:=ih a (by simp) h.1
   have h3:=ih b (by simp) h.2.1
   simp only [Fo.t1,Fo.t2,Fo.wts]; omega
 have ho:(opn kd).length ≤ 2:=by unfold opn; (repeat' split) <;> simp
 rw [Fo.txt,Fo.wt]
 (repeat' split) <;> simp only [List.length_append,List.length_cons,List.length_nil] <;> omega
end Go.Proofs.L06

namespace Go.Proofs.L06
open Go Go.AE Go.Proofs.YtdlahjpoiichkaaGreatDoor
theorem bulkAll_sum {H:Type}:∀ ds:List (DataW H),Rows.uptoBulkAll ds = (ds.map Rows.uptoBulk).sum
 | [] => rfl
 | d :: r => by rw [Rows.uptoBulkAll,bulkAll_sum r]; rfl
section
variable {H:Type} {enc:TypeId × Value → H} {P:Program} {w:World}
def Opb (enc:TypeId × Value → H) (P:Program) (w:World) (fuel:Nat) (t:TypeId) (E:Nat → List AV → Prop):Prop :=
 ∀ cs d ps,DataW.trod enc P w 0 (fun _ => true) true fuel t cs = some (d,ps) → ∃ xs,E (Rows.uptoBulk d) xs ∧ VRs (Gin w) w xs cs
theorem Opb.mono {fuel:Nat} {t:TypeId} {E E':Nat → List AV → Prop} (h:Opb enc P w fuel t E) (k:∀ b xs,E b xs → E' b xs):Opb enc P w fuel t E':=fun cs d ps hd => by
 obtain ⟨xs,h1,h2⟩:=h cs d ps hd
 exact ⟨xs,k _ xs h1,h2⟩
theorem Opb.zero {t:TypeId} {E:Nat → List AV → Prop}:Opb enc P w 0 t E:=fun cs d ps hd => by simp [DataW.trod] at hd
theorem opb_int {fuel:Nat} {t:TypeId} {k:IntKind} (hu:P.underlying t = some (.int k)):Opb enc P w fuel t fun b xs => 1 ≤ b ∧ ∃ n,k.min ≤ n ∧ n ≤ k.max ∧ xs = [.int k n]:=fun cs d ps hd => by
 cases fuel with
 | zero => simp [DataW.trod] at hd
 | succ fuel =>
  rcases cs with _ | ⟨v,_ | ⟨v2,r⟩⟩
  ·simp [DataW.trod,hu] at hd
  ·cases v <;> simp [DataW.trod,hu] at hd
   rename_i k' n
   obtain ⟨⟨rfl,h1⟩,h2,h3⟩:=hd
   subst h2
   simp only [Lit.wf,Bool.and_eq_true,decide_eq_true_eq] at h1
   exact ⟨[.int k' n],⟨by simp [Rows.uptoBulk],n,h1.1,h1.2,rfl⟩,.int _ n,trivial⟩
  ·simp [DataW.trod,hu] at hd
theorem opb_str {fuel:Nat} {t:TypeId} (hu:P.underlying t = some .string):Opb enc P w fuel t fun b xs => ∃ s:List Nat,(∀ c ∈ s,c < 256) ∧ s.length ≤ maxLen ∧ s.length + 1 ≤ b ∧ xs = [.str s]:=fun cs d ps hd => by
 cases fuel with
 | zero => simp [DataW.trod] at hd
 | succ fuel =>
  rcases cs with _ | ⟨v,_ | ⟨v2,r⟩⟩
  ·simp [DataW.trod,hu] at hd
  ·cases v <;> simp [DataW.trod,hu] at hd
   rename_i s
   obtain ⟨h1,h2,h3⟩:=hd
   subst h2
   exact ⟨[.str (s.data.toList.map (·.toNat))],⟨_,by intro c hc; obtain ⟨x,_,rfl⟩:=List.mem_map.1 hc; exact x.toNat_lt,by simpa using h1,by simp [Rows.uptoBulk],rfl⟩,.str s,trivial⟩
  ·simp [DataW.trod,hu] at hd
theorem gatherI {V:Nat → List AV → Prop} {sz:Nat} {val:Nat → Value} {G:Gh}:∀ len:Nat,(∀ m,m < len → ∃ xs,xs.length = sz ∧ V m xs ∧ ∀ i,i < sz → VR G w (xs.getD i .any) (val (m * sz + i))) →
  ∃ xss:List (List AV),xss.length = len ∧ (∀ m xs,xss[m]? = some xs → xs.length = sz ∧ V m xs) ∧ xss.flatten.length = len * sz ∧ ∀ i,i < len * sz → VR G w (xss.flatten.getD i .any) (val i):=by
 intro len
 induction len with
 | zero => intro _; exact ⟨[],rfl,by simp,by simp,by simp⟩
 | succ len ih =>
  intro h
  obtain ⟨xss,h1,h2,h3,h4⟩:=ih fun m hm => h m (by omega)
  obtain ⟨xs,k1,k2,k3⟩:=h len (by omega)
  refine ⟨xss ++ [xs],by simp [h1],fun m ys hy => ?_,?_,fun i hi => ?_⟩
  ·by_cases hm:m < xss.length
   ·rw [List.getElem?_append_left hm] at hy; exact h2 m ys hy
   ·rw [List.getElem?_append_right (by omega)] at hy
    have hm2:m - xss.length = 0:=by
     cases e:m - xss.length with
     | zero => rfl
     | succ j => rw [e] at hy; simp at hy
    rw [hm2] at hy
    simp at hy
    subst hy
    rw [show m = len by omega]
    exact ⟨k1,k2⟩
  ·simp [h3,k1,Nat.add_mul]
  ·have hmul:(len + 1) * sz = len * sz + sz:=by rw [Nat.add_mul,Nat.one_mul]
   rw [hmul] at hi
   rw [List.flatten_append,List.getD_eq_getElem?_getD]
   by_cases hlt:i < len * sz
   ·rw [List.getElem?_append_left (by omega),← List.getD_eq_getElem?_getD]
    exact h4 i hlt
   ·rw [List.getElem?_append_right (by omega)]
    have:=k3 (i - len * sz) (by omega)
    rw [List.getD_eq_getElem?_getD,show len * sz + (i - len * sz) = i by omega] at this
    simpa [h3] using this
theorem opb_slice {fuel:Nat} {t e:TypeId} {agg:Bool} {sz:Nat} {E:Nat → List AV → Prop} (hu:P.underlying t = some (.slice e)) (hsz:P.cellsOf e = sz) (hpos:0 < sz) (hE:Opb enc P w fuel e E) (hsh:∀ b xs,E b xs → shapeOk agg sz xs) :
  Opb enc P w (fuel + 1) t fun b xs => ∃ k es,∃ bs:List Nat,xs = [.slice k es] ∧ (k = .nil ∧ es = [] ∨ k = .open_) ∧ es.length ≤ maxLen ∧ bs.length = es.length ∧ bs.sum + 1 ≤ b ∧ ∀ (i:Nat) x c,es[i]? = some x → bs[i]? = some c → E c x.cells ∧ x = Go.AE.elemOf agg x.cells:=fun cs d ps hd => by
 rcases cs with _ | ⟨v,_ | ⟨v2,r⟩⟩
 ·simp [DataW.trod,hu] at hd
 ·cases v with
  | slice a len cap =>
   cases a with
   | none =>
    by_cases h0:len = 0 ∧ cap = 0
    ·obtain ⟨rfl,rfl⟩:=h0
     refine ⟨[.slice .nil []],⟨.nil,[],[],rfl,.inl ⟨rfl,rfl⟩,by simp,rfl,?_,by simp⟩,?_,trivial⟩
     ·simp [DataW.trod,hu] at hd; rw [← hd.1]; simp [Rows.uptoBulk]
     ·exact .slice .nil [] none 0 (fun _ => undef) ⟨rfl,rfl,rfl⟩ (fun i hi => by simp [Go.AE.flat] at hi) (fun i hi => by simp [Go.AE.flat] at hi) ⟨0,rfl⟩
    ·simp only [DataW.trod,hu] at hd
     split at hd <;> simp_all
   | some a =>
    simp only [DataW.trod,hu,hsz] at hd
    split at hd
    ·rename_i hc
     cases hm:(List.range len).mapM fun i => (w.cells? 0 (a.add (i * sz)) sz).bind (DataW.trod enc P w 0 (fun _ => true) true fuel e) with
     | none => rw [hm] at hd; cases hd
     | some elems =>
      rw [hm] at hd
      simp only [Option.bind_some,if_true] at hd
      cases hm2:(List.range (cap - len)).mapM fun j => (w.cells? 0 (a.add ((len + j) * sz)) sz).bind (DataW.trod enc P w 0 (fun _ => true) true fuel e) with
      | none => rw [hm2] at hd; cases hd
      | some rest =>
       rw [hm2] at hd
       simp only [Option.map_some,Option.some.injEq,Prod.mk.injEq] at hd
       obtain ⟨hd1,hd2⟩:=hd
       subst hd1
       obtain ⟨l1,g1⟩:=mapM_get hm
       have hlen:elems.length = len:=by simpa using l1
       have each:∀ m,m < len → ∃ csm,w.cells? 0 (a.add (m * sz)) sz = some csm ∧ ∃ xs,(∃ y,elems[m]? = some y ∧ E (Rows.uptoBulk y.1) xs) ∧ VRs (Gin w) w xs csm:=fun m hm' => by
        obtain ⟨y,h3,h4⟩:=g1 m m (by simp [hm'])
        cases hcm:w.cells? 0 (a.add (m * sz)) sz with
        | none => rw [hcm] at h4; cases h4
        | some csm =>
         rw [hcm] at h4
         obtain ⟨dd,pp⟩:=y
         obtain ⟨xs,x1,x2⟩:=hE csm dd pp h4
         exact ⟨csm,rfl,xs,⟨_,h3,x1⟩,x2⟩
       have hspot:0 < len → a.spot = none:=fun hp => by
        obtain ⟨csm,c1,_⟩:=each 0 hp
        have:=(cells?_get c1).2 0 hpos
        simp only [Nat.zero_mul,Addr.add,if_true] at this
        unfold World.cell? at this
        split at this
        ·split at this
         ·cases this
         ·rename_i h; simpa using h
        ·cases this
       have hadd:0 < len → ∀ m,a.add m = ⟨a.block,a.off + m,none⟩:=fun hp m => by
        unfold Addr.add
        have:=hspot hp
        obtain ⟨b,o,s⟩:=a
        simp only at this
        subst this
        split
        ·rename_i h; subst h; rfl
        ·rfl
       have hval:∀ m,m < len → ∀ i,i < sz → ∃ csm:List Value,csm.length = sz ∧ w.cells? 0 (a.add (m * sz)) sz = some csm ∧ w.cell? ⟨a.block,a.off + (m * sz + i),none⟩ = some (csm.getD i undef):=fun m hm' i hi => by
        obtain ⟨csm,c1,_⟩:=each m hm'
        obtain ⟨c2,c3⟩:=cells?_get c1
        refine ⟨csm,c2,c1,?_⟩
        have:=c3 i hi
        rw [hadd (by omega)] at this
        have e2:Addr.add ⟨a.block,a.off + m * sz,none⟩ i = ⟨a.block,a.off + (m * sz + i),none⟩:=by
         unfold Addr.add
         split
         ·rename_i h; subst h; simp
         ·simp only [Addr.mk.injEq,true_and,and_true]; omega
        rwa [e2] at this
       have hga:=gatherI (w:=w) (G:=Gin w) (V:=fun m xs => ∃ y,elems[m]? = some y ∧ E (Rows.uptoBulk y.1) xs) (sz:=sz) (val:=fun i => (w.cell? ⟨a.block,a.off + i,none⟩).getD undef) len fun m hm' => by
        obtain ⟨csm,c1,xs,⟨y,x0,x1⟩,x2⟩:=each m hm'
        refine ⟨xs,(hsh _ xs x1).1,⟨y,x0,x1⟩,fun i hi => ?_⟩
        obtain ⟨csm',y1,y2,y3⟩:=hval m hm' i hi
        rw [c1] at y2; cases y2
        rw [y3]
        exact x2.get i (by rw [(hsh _ xs x1).1]; exact hi)
       obtain ⟨xss,q1,q2,q3,q4⟩:=hga
       have hshape:∀ xs ∈ xss,shapeOk agg sz xs:=fun xs hx => by
        obtain ⟨m,hm⟩:=List.getElem?_of_mem hx
        obtain ⟨_,y,_,h⟩:=q2 m xs hm
        exact hsh _ xs h
       have hflat:=flat_elemOf hshape
       have hcellsz:∀ x ∈ xss.map (Go.AE.elemOf agg),∃ xs ∈ xss,x = Go.AE.elemOf agg xs ∧ x.cells = xs:=fun x hx => by
        obtain ⟨xs,hxs,rfl⟩:=List.mem_map.1 hx
        exact ⟨xs,hxs,rfl,elemOf_cells (hshape xs hxs)⟩
       refine ⟨[.slice .open_ (xss.map (Go.AE.elemOf agg))],⟨.open_,_,elems.map fun y => Rows.uptoBulk y.1,rfl,.inr rfl,by simp [q1]; omega,by rw [List.length_map,List.length_map,q1,hlen],?_,fun i x c hx hc => ?_⟩,?_,trivial⟩
       ·rw [Rows.uptoBulk,bulkAll_sum,List.map_map]
        show (elems.map fun y => Rows.uptoBulk y.1).sum + 1 ≤ (elems.map fun y => Rows.uptoBulk y.1).sum + _ + 1
        omega
       ·rw [List.getElem?_map] at hx hc
        cases e:xss[i]? with
        | none => rw [e] at hx; cases hx
        | some xs =>
         rw [e] at hx
         cases hx
         obtain ⟨_,y,hy,h⟩:=q2 i xs e
         rw [hy] at hc
         cases hc
         have:=elemOf_cells (hshape xs (List.mem_of_getElem? e))
         rw [this]
         exact ⟨h,rfl⟩
       ·have:=VR.slice (G:=Gin w) (w:=w) .open_ (xss.map (Go.AE.elemOf agg)) (some a) cap (fun i => (w.cell? ⟨a.block,a.off + i,none⟩).getD undef) ⟨rfl,by simp [q1]; exact hc.2.1⟩
         (by
          rw [hflat,q3]
          intro i hi
          have hp:0 < len:=by
           rcases Nat.eq_zero_or_pos len with h | h
           ·subst h; simp at hi
           ·exact h
          obtain ⟨csm,y1,y2,y3⟩:=hval (i / sz) (by rw [Nat.div_lt_iff_lt_mul hpos]; exact hi) (i % sz) (Nat.mod_lt _ hpos)
          rw [show i / sz * sz + i % sz = i by rw [Nat.mul_comm]; exact Nat.div_add_mod i sz] at y3
          refine ⟨a.block,a.off,?_,?_,by simp only [y3,Option.getD_some]⟩
          ·have:=hadd hp 0
           simpa [Addr.add] using this
          ·show a.block < w.heap.size
           unfold World.cell? at y3
           split at y3
           ·rename_i hh; exact (Array.getElem?_eq_some_iff.1 hh).1
           ·cases y3)
         (by rw [hflat,q3]; exact q4)
         ⟨sz,by
          simp only [sized,List.all_eq_true,beq_iff_eq]
          intro x hx
          obtain ⟨xs,h1,h2,h3⟩:=hcellsz x hx
          rw [h3]; exact (hshape xs h1).1⟩
        simpa [q1] using this
    ·cases hd
  | _ => simp [DataW.trod,hu] at hd
 ·simp [DataW.trod,hu] at hd
def CatB:List (Nat → List AV → Prop) → Nat → List AV → Prop
 | [],_,xs => xs = []
 | E :: r,b,xs => ∃ a c b1 b2,xs = a ++ c ∧ b1 + b2 ≤ b ∧ E b1 a ∧ CatB r b2 c
def LayB (enc:TypeId × Value → H) (P:Program) (w:World) (fuel total:Nat):Nat → List Field → List (Nat → List AV → Prop) → Prop
 | off,[],[] => off = total
 | off,f :: r,E :: Es => f.offset = off ∧ Opb enc P w fuel f.type E ∧ LayB enc P w fuel total (off + P.cellsOf f.type) r Es
 | _,_,_ => False
theorem lay_catB {fuel total:Nat} {cs:List Value} (hcs:cs.length = total):∀ (off:Nat) (fields:List Field) (Es:List (Nat → List AV → Prop)) (ys:List (DataW H × List MemPlace)),LayB enc P w fuel total off fields Es →
  (fields.mapM fun f => DataW.trod enc P w 0 (fun _ => true) true fuel f.type ((cs.drop f.offset).take (P.cellsOf f.type))) = some ys → ∃ xs,CatB Es (Rows.uptoBulkAll (ys.map (·.1))) xs ∧ VRs (Gin w) w xs (cs.drop off)
 | off,[],[],ys,h,hm => by
  simp at hm; subst hm
  exact ⟨[],rfl,by rw [show off = total from h,← hcs,List.drop_length]; trivial⟩
 | off,f :: r,E :: Es,ys,⟨h1,h2,h3⟩,hm => by
  rw [List.mapM_cons] at hm
  cases hf:DataW.trod enc P w 0 (fun _ => true) true fuel f.type ((cs.drop f.offset).take (P.cellsOf f.type)) with
  | none => rw [hf] at hm; cases hm
  | some y =>
   rw [hf] at hm
   cases hr:r.mapM fun f => DataW.trod enc P w 0 (fun _ => true) true fuel f.type ((cs.drop f.offset).take (P.cellsOf f.type)) with
   | none => simp [hr] at hm
   | some zs =>
    simp [hr] at hm
    subst hm
    obtain ⟨d,p⟩:=y
    obtain ⟨a,a1,a2⟩:=h2 _ d p hf
    obtain ⟨b,b1,b2⟩:=lay_catB hcs (off + P.cellsOf f.type) r Es zs h3 hr
    refine ⟨a ++ b,⟨a,b,_,_,rfl,by simp [Rows.uptoBulkAll],a1,b1⟩,?_⟩
    rw [h1] at a2
    have:cs.drop off = (cs.drop off).take (P.cellsOf f.type) ++ cs.drop (off + P.cellsOf f.type):=by
     rw [← List.drop_drop]; exact (List.take_append_drop _ _).symm
    rw [this]
    exact a2.append b2
 | _,[],_ :: _,_,h,_ => h.elim
 | _,_ :: _,[],_,h,_ => h.elim
theorem opb_struct {fuel:Nat} {t:TypeId} {fs:Array Field} {Es:List (Nat → List AV → Prop)} (hu:P.underlying t = some (.struct fs)) (hlay:LayB enc P w fuel (P.cellsOf t) 0 fs.toList Es) :
  Opb enc P w (fuel + 1) t (fun b xs => ∃ b',b' + 1 ≤ b ∧ CatB Es b' xs):=fun cs d ps hd => by
 simp only [DataW.trod,hu] at hd
 split at hd
 ·rename_i hc
  cases hm:fs.toList.mapM fun f => DataW.trod enc P w 0 (fun _ => true) true fuel f.type ((cs.drop f.offset).take (P.cellsOf f.type)) with
  | none => rw [hm] at hd; cases hd
  | some ys =>
   rw [hm] at hd
   simp only [Option.map_some,Option.some.injEq,Prod.mk.injEq] at hd
   obtain ⟨rfl,_⟩:=hd
   obtain ⟨xs,h1,h2⟩:=lay_catB hc 0 fs.toList Es ys hlay hm
   exact ⟨xs,⟨_,by rw [Rows.uptoBulk]; exact Nat.le_refl _,h1⟩,by simpa using h2⟩
 ·cases hd
end
theorem rund3:Tryz.prog.underlying 3 = some (.int .i64):=by kernel_rfl
theorem rund9:Tryz.prog.underlying 9 = some .string:=by kernel_rfl
theorem rund22:Tryz.prog.underlying 22 = some (.slice 39):=by kernel_rfl
theorem rund23:Tryz.prog.underlying 23 = some (.slice 25):=by kernel_rfl
theorem rund26:Tryz.prog.underlying 26 = some (.slice 28):=by kernel_rfl
noncomputable def fs25:Array Field:=match Tryz.prog.underlying 25 with | some (.struct fs) => fs | _ => #[]
noncomputable def fs39:Array Field:=match Tryz.prog.underlying 39 with | some (.struct fs) => fs | _ => #[]
noncomputable def fs28:Array Field:=match Tryz.prog.underlying 28 with | some (.struct fs) => fs | _ => #[]
theorem rund25:Tryz.prog.underlying 25 = some (.struct fs25):=by kernel_rfl
theorem rund39:Tryz.prog.underlying 39 = some (.struct fs39):=by kernel_rfl
theorem rund28:Tryz.prog.underlying 28 = some (.struct fs28):=by kernel_rfl
theorem ce3:Tryz.prog.cellsOf 3 = 1:=by kernel_rfl
theorem ce9:Tryz.prog.cellsOf 9 = 1:=by kernel_rfl
theorem ce22:Tryz.prog.cellsOf 22 = 1:=by kernel_rfl
theorem ce23:Tryz.prog.cellsOf 23 = 1:=by kernel_rfl
theorem ce26:Tryz.prog.cellsOf 26 = 1:=by kernel_rfl
theorem ce25:Tryz.prog.cellsOf 25 = 2:=by kernel_rfl
theorem ce39:Tryz.prog.cellsOf 39 = 4:=by kernel_rfl
theorem ce28:Tryz.prog.cellsOf 28 = 6:=by kernel_rfl
theorem lay25:∃ f0 f1:Field,fs25.toList = [f0,f1] ∧ f0.offset = 0 ∧ f0.type = 9 ∧ f1.offset = 1 ∧ f1.type = 23 :=
 ⟨fs25.toList.getD 0 default,fs25.toList.getD 1 default,by kernel_rfl,by kernel_rfl,by kernel_rfl,by kernel_rfl,by kernel_rfl⟩
theorem lay39:∃ f0 f1 f2 f3:Field,fs39.toList = [f0,f1,f2,f3] ∧ f0.offset = 0 ∧ f0.type = 3 ∧ f1.offset = 1 ∧ f1.type = 3 ∧ f2.offset = 2 ∧ f2.type = 9 ∧ f3.offset = 3 ∧ f3.type = 22 :=
 ⟨fs39.toList.getD 0 default,fs39.toList.getD 1 default,fs39.toList.getD 2 default,fs39.toList.getD 3 default,by kernel_rfl,by kernel_rfl,by kernel_rfl,by kernel_rfl,by kernel_rfl,by kernel_rfl,by kernel_rfl,by kernel_rfl,by kernel_rfl⟩
theorem lay28:∃ f0 f1 f2 f3 f4:Field,fs28.toList = [f0,f1,f2,f3,f4] ∧ f0.offset = 0 ∧ f0.type = 3 ∧ f1.offset = 1 ∧ f1.type = 9 ∧ f2.offset = 2 ∧ f2.type = 22 ∧ f3.offset = 3 ∧ f3.type = 25 ∧ f4.offset = 5 ∧ f4.type = 26 :=
 ⟨fs28.toList.getD 0 default,fs28.toList.getD 1 default,fs28.toList.getD 2 default,fs28.toList.getD 3 default,fs28.toList.getD 4 default,by kernel_rfl,by kernel_rfl,by kernel_rfl,by kernel_rfl,by kernel_rfl,by kernel_rfl,by kernel_rfl,by kernel_rfl,by kernel_rfl,by kernel_rfl,by kernel_rfl⟩
def E25 (b:Nat) (xs:List AV):Prop:=∃ t:Ty,t.Ok ∧ xs = t.av.cells ∧ t.wt ≤ b
def E39 (b:Nat) (xs:List AV):Prop:=∃ t:Tm,t.Ok ∧ xs = t.av.cells ∧ t.wt ≤ b
def E28 (b:Nat) (xs:List AV):Prop:=∃ t:Fo,t.Ok ∧ xs = t.av.cells ∧ t.wt ≤ b
theorem E25.shape {b:Nat} {xs:List AV} (h:E25 b xs):shapeOk true 2 xs:=by
 obtain ⟨⟨a,b,c⟩,_,rfl,_⟩:=h
 exact ⟨rfl,.inl rfl⟩
theorem pick25:∀ (es:List AV) (bs:List Nat),bs.length = es.length → (∀ (i:Nat) x c,es[i]? = some x → bs[i]? = some c → E25 c x.cells ∧ x = Go.AE.elemOf true x.cells) → ∃ l,Ty.Oks l ∧ es = Ty.avs l ∧ Ty.wts l ≤ bs.sum
 | [],_,_,_ => ⟨[],by simp only [Ty.Oks],rfl,by simp [Ty.wts]⟩
 | _ :: _,[],hl,_ => by simp at hl
 | x :: es,c :: bs,hl,h => by
  obtain ⟨⟨t,ht,h1,hw⟩,h2⟩:=h 0 x c rfl rfl
  obtain ⟨l,hl,h3,h4⟩:=pick25 es bs (by simpa using hl) fun i y d hy hd => h (i + 1) y d (by simpa using hy) (by simpa using hd)
  refine ⟨t :: l,by simp only [Ty.Oks]; exact ⟨ht,hl⟩,?_,by simp [Ty.wts]; omega⟩
  rw [Ty.avs,← h3,h2,h1]
  obtain ⟨a,b,c⟩:=t
  rfl
theorem E39.shape {b:Nat} {xs:List AV} (h:E39 b xs):shapeOk true 4 xs:=by
 obtain ⟨⟨a,b,c,d,e⟩,_,rfl,_⟩:=h
 exact ⟨rfl,.inl rfl⟩
theorem pick39:∀ (es:List AV) (bs:List Nat),bs.length = es.length → (∀ (i:Nat) x c,es[i]? = some x → bs[i]? = some c → E39 c x.cells ∧ x = Go.AE.elemOf true x.cells) → ∃ l,Tm.Oks l ∧ es = Tm.avs l ∧ Tm.wts l ≤ bs.sum
 | [],_,_,_ => ⟨[],by simp only [Tm.Oks],rfl,by simp [Tm.wts]⟩
 | _ :: _,[],hl,_ => by simp at hl
 | x :: es,c :: bs,hl,h => by
  obtain ⟨⟨t,ht,h1,hw⟩,h2⟩:=h 0 x c rfl rfl
  obtain ⟨l,hl,h3,h4⟩:=pick39 es bs (by simpa using hl) fun i y d hy hd => h (i + 1) y d (by simpa using hy) (by simpa using hd)
  refine ⟨t :: l,by simp only [Tm.Oks]; exact ⟨ht,hl⟩,?_,by simp [Tm.wts]; omega⟩
  rw [Tm.avs,← h3,h2,h1]
  obtain ⟨a,b,c,d,e⟩:=t
  rfl
theorem E28.shape {b:Nat} {xs:List AV} (h:E28 b xs):shapeOk true 6 xs:=by
 obtain ⟨⟨a,b,c,d,e,f,g⟩,_,rfl,_⟩:=h
 exact ⟨rfl,.inl rfl⟩
theorem pick28:∀ (es:List AV) (bs:List Nat),bs.length = es.length → (∀ (i:Nat) x c,es[i]? = some x → bs[i]? = some c → E28 c x.cells ∧ x = Go.AE.elemOf true x.cells) → ∃ l,Fo.Oks l ∧ es = Fo.avs l ∧ Fo.wts l ≤ bs.sum
 | [],_,_,_ => ⟨[],by simp only [Fo.Oks],rfl,by simp [Fo.wts]⟩
 | _ :: _,[],hl,_ => by simp at hl
 | x :: es,c :: bs,hl,h => by
  obtain ⟨⟨t,ht,h1,hw⟩,h2⟩:=h 0 x c rfl rfl
  obtain ⟨l,hl,h3,h4⟩:=pick28 es bs (by simpa using hl) fun i y d hy hd => h (i + 1) y d (by simpa using hy) (by simpa using hd)
  refine ⟨t :: l,by simp only [Fo.Oks]; exact ⟨ht,hl⟩,?_,by simp [Fo.wts]; omega⟩
  rw [Fo.avs,← h3,h2,h1]
  obtain ⟨a,b,c,d,e,f,g⟩:=t
  rfl
theorem num_of {n:Int} (h1:IntKind.i64.min ≤ n) (h2:n ≤ IntKind.i64.max):num n:=by
 have e1:IntKind.i64.min = -9223372036854775808:=rfl
 have e2:IntKind.i64.max = 9223372036854775807:=rfl
 unfold num; omega
theorem big_len {n:Nat} (h:n ≤ maxLen):n < Big:=by unfold maxLen at h; unfold Big; omega
section
variable {H:Type} {enc:TypeId × Value → H} {w:World}
theorem opb25:∀ fuel,Opb enc Tryz.prog w fuel 25 E25:=by
 intro fuel
 induction fuel using Nat.strongRecOn with
 | ind fuel ih =>
  cases fuel with
  | zero => exact Opb.zero
  | succ fuel =>
   obtain ⟨f0,f1,e,o0,t0,o1,t1⟩:=lay25
   have h23:Opb enc Tryz.prog w fuel 23 (fun b xs => ∃ k l,xs = [.slice k (Ty.avs l)] ∧ noTok k ∧ l.length < Big ∧ Ty.Oks l ∧ Ty.wts l + 1 ≤ b):=by
    cases fuel with
    | zero => exact Opb.zero
    | succ f =>
     refine (opb_slice (agg:=true) (sz:=2) rund23 ce25 (by omega) (ih f (by omega)) (fun b xs h => h.shape)).mono fun b xs h => ?_
     obtain ⟨k,es,bs,h1,h2,hm,hn,hs,h3⟩:=h
     obtain ⟨l,hl,rfl,hw⟩:=pick25 es bs hn h3
     rw [Ty.len] at hm
     refine ⟨k,l,h1,?_,big_len hm,hl,by omega⟩
     rcases h2 with ⟨rfl,_⟩ | rfl <;> trivial
   refine (opb_struct (Es:=[_,_]) rund25 (by
    rw [e,ce25]
    refine ⟨o0,by rw [t0]; exact opb_str rund9,?_⟩
    rw [t0,ce9]
    refine ⟨o1,by rw [t1]; exact h23,?_⟩
    rw [t1,ce23]
    rfl)).mono fun b xs h => ?_
   obtain ⟨b',hb,a,c,b1,b2,rfl,i1,⟨s,hs,_,w1,rfl⟩,a2,c2,b3,b4,rfl,i2,⟨k,l,rfl,hk,hB,hl,hw⟩,rfl⟩:=h
   exact ⟨.mk s k l,⟨hs,hk,hB,hl⟩,rfl,by rw [Ty.wt]; omega⟩
theorem opb39:∀ fuel,Opb enc Tryz.prog w fuel 39 E39:=by
 intro fuel
 induction fuel using Nat.strongRecOn with
 | ind fuel ih =>
  cases fuel with
  | zero => exact Opb.zero
  | succ fuel =>
   obtain ⟨f0,f1,f2,f3,e,o0,t0,o1,t1,o2,t2,o3,t3⟩:=lay39
   have h22:Opb enc Tryz.prog w fuel 22 (fun b xs => ∃ k l,xs = [.slice k (Tm.avs l)] ∧ noTok k ∧ l.length < Big ∧ Tm.Oks l ∧ Tm.wts l + 1 ≤ b):=by
    cases fuel with
    | zero => exact Opb.zero
    | succ f =>
     refine (opb_slice (agg:=true) (sz:=4) rund22 ce39 (by omega) (ih f (by omega)) (fun b xs h => h.shape)).mono fun b xs h => ?_
     obtain ⟨k,es,bs,h1,h2,hm,hn,hs,h3⟩:=h
     obtain ⟨l,hl,rfl,hw⟩:=pick39 es bs hn h3
     rw [Tm.len] at hm
     refine ⟨k,l,h1,?_,big_len hm,hl,by omega⟩
     rcases h2 with ⟨rfl,_⟩ | rfl <;> trivial
   refine (opb_struct (Es:=[_,_,_,_]) rund39 (by
    rw [e,ce39]
    refine ⟨o0,by rw [t0]; exact opb_int rund3,?_⟩
    rw [t0,ce3]
    refine ⟨o1,by rw [t1]; exact opb_int rund3,?_⟩
    rw [t1,ce3]
    refine ⟨o2,by rw [t2]; exact opb_str rund9,?_⟩
    rw [t2,ce9]
    refine ⟨o3,by rw [t3]; exact h22,?_⟩
    rw [t3,ce22]
    rfl)).mono fun b xs h => ?_
   obtain ⟨b',hb,a,c,b1,b2,rfl,i1,⟨w0,kd,hk1,hk2,rfl⟩,a2,c2,b3,b4,rfl,i2,⟨w1,n,hn1,hn2,rfl⟩,a3,c3,b5,b6,rfl,i3,⟨s,hs,_,w2,rfl⟩,a4,c4,b7,b8,rfl,i4,⟨k,l,rfl,hk,hB,hl,hw⟩,rfl⟩:=h
   exact ⟨.mk kd n s k l,⟨num_of hk1 hk2,num_of hn1 hn2,hs,hk,hB,hl⟩,rfl,by rw [Tm.wt]; omega⟩
theorem opb22:∀ fuel,Opb enc Tryz.prog w fuel 22 (fun b xs => ∃ k l,xs = [.slice k (Tm.avs l)] ∧ noTok k ∧ l.length < Big ∧ Tm.Oks l ∧ Tm.wts l + 1 ≤ b)
 | 0 => Opb.zero
 | f + 1 => by
  refine (opb_slice (agg:=true) (sz:=4) rund22 ce39 (by omega) (opb39 f) (fun b xs h => h.shape)).mono fun b xs h => ?_
  obtain ⟨k,es,bs,h1,h2,hm,hn,hs,h3⟩:=h
  obtain ⟨l,hl,rfl,hw⟩:=pick39 es bs hn h3
  rw [Tm.len] at hm
  refine ⟨k,l,h1,?_,big_len hm,hl,by omega⟩
  rcases h2 with ⟨rfl,_⟩ | rfl <;> trivial
theorem opb28:∀ fuel,Opb enc Tryz.prog w fuel 28 E28:=by
 intro fuel
 induction fuel using Nat.strongRecOn with
 | ind fuel ih =>
  cases fuel with
  | zero => exact Opb.zero
  | succ fuel =>
   obtain ⟨f0,f1,f2,f3,f4,e,o0,t0,o1,t1,o2,t2,o3,t3,o4,t4⟩:=lay28
   have h26:Opb enc Tryz.prog w fuel 26 (fun b xs => ∃ k l,xs = [.slice k (Fo.avs l)] ∧ noTok k ∧ l.length < Big ∧ Fo.Oks l ∧ Fo.wts l + 1 ≤ b):=by
    cases fuel with
    | zero => exact Opb.zero
    | succ f =>
     refine (opb_slice (agg:=true) (sz:=6) rund26 ce28 (by omega) (ih f (by omega)) (fun b xs h => h.shape)).mono fun b xs h => ?_
     obtain ⟨k,es,bs,h1,h2,hm,hn,hs,h3⟩:=h
     obtain ⟨l,hl,rfl,hw⟩:=pick28 es bs hn h3
     rw [Fo.len] at hm
     refine ⟨k,l,h1,?_,big_len hm,hl,by omega⟩
     rcases h2 with ⟨rfl,_⟩ | rfl <;> trivial
   refine (opb_struct (Es:=[_,_,_,_,_]) rund28 (by
    rw [e,ce28]
    refine ⟨o0,by rw [t0]; exact opb_int rund3,?_⟩
    rw [t0,ce3]
    refine ⟨o1,by rw [t1]; exact opb_str rund9,?_⟩
    rw [t1,ce9]
    refine ⟨o2,by rw [t2]; exact opb22 fuel,?_⟩
    rw [t2,ce22]
    refine ⟨o3,by rw [t3]; exact opb25 fuel,?_⟩
    rw [t3,ce25]
    refine ⟨o4,by rw [t4]; exact h26,?_⟩
    rw [t4,ce26]
    rfl)).mono fun b xs h => ?_
   obtain ⟨b',hb,a,c,b1,b2,rfl,i1,⟨w0,kd,hk1,hk2,rfl⟩,a2,c2,b3,b4,rfl,i2,⟨s,hs,_,w1,rfl⟩,a3,c3,b5,b6,rfl,i3,⟨k,l,rfl,hk,hB,hl,hw⟩,a4,c4,b7,b8,rfl,i4,⟨ty,hty,rfl,hwt⟩,a5,c5,b9,b10,rfl,i5,⟨k2,l2,rfl,hk2',hb2,hl2,hw2⟩,rfl⟩:=h
   refine ⟨.mk kd s k l ty k2 l2,⟨num_of hk1 hk2,hs,hk,hB,hl,hty,hk2',hb2,hl2⟩,?_,?_⟩
   ·obtain ⟨tn,tk,tx⟩:=ty
    rfl
   ·rw [Fo.wt]; omega
end
end Go.Proofs.L06
