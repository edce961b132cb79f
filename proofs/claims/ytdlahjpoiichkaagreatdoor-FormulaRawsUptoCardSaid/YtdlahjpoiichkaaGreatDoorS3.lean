/- Scanning: a name is a name, at every string. -/
import Derived.Test.YtdlahjpoiichkaaGreatDoorS2
set_option linter.unusedVariables false
set_option linter.unusedSimpArgs false
set_option linter.unusedSectionVars false
namespace Go.Proofs.L06
open Go Go.AE
theorem Zu:type_of% (o1 @tsc0 (o1 @tz0 (o1 @nq0 (o1 @ge0 (o1 @gt0 (o1 @is0 (o1 @is1 (o1 @bs0 (@bn0))))))))):=o1 @tsc0 (o1 @tz0 (o1 @nq0 (o1 @ge0 (o1 @gt0 (o1 @is0 (o1 @is1 (o1 @bs0 (@bn0))))))))
open Nat renaming reduceLT → rA,reduceLeDiff → rB,reduceEqDiff → rC,reduceMul → rD,reduceAdd → rE,reduceSub → rF
section
variable {Q:Ctx} (hK:K Q)
include hK
theorem x399_c {s:List Nat} {c:Int} (h0:0 ≤ c) (h1:c < 256):Ret Q 399 [.str s,.int .u8 c] (.int .i64 (idxB s c)):=fun st => callW_X (hK.x399 s c st h0 h1)
theorem x243_c {a b:List Nat}:Ret Q 243 [.str a,.str b] (.int .i64 (cmpS a b)):=fun st => callW_X (hK.x243 a b st)
theorem x304_c {v:AV}:Ret Q 304 [v] v:=fun st => callW_X (hK.x304 v st)
theorem idx393 {s:List Nat} {c:Int} (h0:0 ≤ c) (h1:c < 256):Ret Q 393 [.str s,.int .u8 c] (.int .i64 (idxB s c)):=fun st => by
 refine callY (N:=8) (ok393 hK) (hK.nx _ _ _ rfl) rfl rfl ?_
 simp only [RS,RT,RZ,Zu,rA,rB,rC,rD,rE,rF,reduceCtorEq,x393,F393,x399_c hK h0 h1]
theorem idx374 {s:List Nat} {c:Int} (h0:0 ≤ c) (h1:c < 256):Ret Q 374 [.str s,.int .u8 c] (.int .i64 (idxB s c)):=fun st => by
 refine callY (N:=8) (ok374 hK) (hK.nx _ _ _ rfl) rfl rfl ?_
 simp only [RS,RT,RZ,Zu,rA,rB,rC,rD,rE,rF,reduceCtorEq,x374,F374,idx393 hK h0 h1]
def smallT (b:Int):Bool:=decide (97 ≤ b) && decide (b ≤ 122)
def capT (b:Int):Bool:=decide (65 ≤ b) && decide (b ≤ 90)
theorem small_c {b:Int}:Ret Q 378 [.int .u8 b] (.bool (smallT b)):=fun st => by
 refine callY (N:=9) (ok378 hK) (hK.nx _ _ _ rfl) rfl rfl ?_
 unfold smallT
 cases e1:decide (97 ≤ b) <;> simp only [RS,RT,RZ,Zu,rA,rB,rC,rD,rE,rF,reduceCtorEq,x378,F378,e1]
theorem cap_c {b:Int}:Ret Q 380 [.int .u8 b] (.bool (capT b)):=fun st => by
 refine callY (N:=9) (ok380 hK) (hK.nx _ _ _ rfl) rfl rfl ?_
 unfold capT
 cases e1:decide (65 ≤ b) <;> simp only [RS,RT,RZ,Zu,rA,rB,rC,rD,rE,rF,reduceCtorEq,x380,F380,e1]
theorem rsmall_c {b:Int}:Ret Q 298 [.int .u8 b] (.bool (smallT b)):=fun st => by
 refine callY (N:=9) (ok298 hK) (hK.nx _ _ _ rfl) rfl rfl ?_
 unfold smallT
 cases e1:decide (97 ≤ b) <;> simp only [RS,RT,RZ,Zu,rA,rB,rC,rD,rE,rF,reduceCtorEq,x298,F298,e1]
theorem rcap_c {b:Int}:Ret Q 296 [.int .u8 b] (.bool (capT b)):=fun st => by
 refine callY (N:=9) (ok296 hK) (hK.nx _ _ _ rfl) rfl rfl ?_
 unfold capT
 cases e1:decide (65 ≤ b) <;> simp only [RS,RT,RZ,Zu,rA,rB,rC,rD,rE,rF,reduceCtorEq,x296,F296,e1]
def partT (b:Int):Bool:=smallT b || (capT b || ((decide (48 ≤ b) && decide (b ≤ 57)) || (b == 95 || b == 39)))
theorem part_c {b:Int}:Ret Q 302 [.int .u8 b] (.bool (partT b)):=fun st => by
 refine callY (N:=25) (ok302 hK) (hK.nx _ _ _ rfl) rfl rfl ?_
 unfold partT
 cases e1:smallT b <;> cases e2:capT b <;> cases e3:decide (48 ≤ b) <;> cases e4:decide (b ≤ 57) <;> cases e5:b == 95 <;> simp only [RS,RT,RZ,Zu,rA,rB,rC,rD,rE,rF,reduceCtorEq,x302,F302,rsmall_c hK,rcap_c hK,e1,e2,e3,e4,e5,Bool.true_or,Bool.false_or]
def kwords:List (List Nat):=[[116,121,112,101],[99,111,110,115,116],[112,114,101,100],[102,97,99,116],[108,97,115,116,105,110,103],[109,111,100,101],[114,117,108,101],[111,110,99,101],[109,111,115,116],[113,117,101,114,121],[109,111,100,117,108,101],[117,115,101],[101,120,112,111,114,116],[97,108,108],[101,120],[111,110,101],[116,111,112]]
def strsA (l:List (List Nat)):List AV:=l.map .str
theorem kw_c:Ret Q 379 [] (.slice .exact (strsA kwords)):=fun st => by
 refine callY (N:=2) (ok379 hK) (hK.nx _ _ _ rfl) rfl rfl ?_
 simp only [RS,RT,RZ,Zu,rA,rB,rC,rD,rE,rF,reduceCtorEq,x379,F379]
 rfl
theorem rwords_c:Ret Q 301 [] (.slice .exact (strsA kwords)):=fun st => by
 refine callY (N:=2) (ok301 hK) (hK.nx _ _ _ rfl) rfl rfl ?_
 simp only [RS,RT,RZ,Zu,rA,rB,rC,rD,rE,rF,reduceCtorEq,x301,F301]
 rfl
theorem pre394 {s p:List Nat}:Ret Q 394 [.str s,.str p] (.bool (decide (p.length ≤ s.length) && (s.take p.length == p))):=fun st => by
 refine callY (N:=18) (ok394 hK) (hK.nx _ _ _ rfl) rfl rfl ?_
 by_cases h:p.length ≤ s.length
 ·simp only [RS,RT,RZ,Zu,rA,rB,rC,rD,rE,rF,reduceCtorEq,x394,F394,h,sliceA_str (tw9 hK)]
 ·simp only [RS,RT,RZ,Zu,rA,rB,rC,rD,rE,rF,reduceCtorEq,x394,F394,h,sliceA_str (tw9 hK)]
theorem pre381 {s p:List Nat}:Ret Q 381 [.str s,.str p] (.bool (decide (p.length ≤ s.length) && (s.take p.length == p))):=fun st => by
 refine callY (N:=8) (ok381 hK) (hK.nx _ _ _ rfl) rfl rfl ?_
 simp only [RS,RT,RZ,Zu,rA,rB,rC,rD,rE,rF,reduceCtorEq,x381,F381,pre394 hK]
end
end Go.Proofs.L06

namespace Go.Proofs.L06
open Go Go.AE
open Nat renaming reduceLT → rA,reduceLeDiff → rB,reduceEqDiff → rC,reduceMul → rD,reduceAdd → rE,reduceSub → rF
theorem wrapUp {i:Nat} (h:i < 9223372036854775807):IntKind.i64.wrap ((i:Int) + 1) = ((i + 1:Nat):Int):=by
 rw [wrap64 (by omega) (by omega)]; rfl
theorem drop_get {α:Type} {l:List α} {i:Nat} (h:i < l.length):∃ x,l[i]? = some x ∧ l.drop i = x :: l.drop (i + 1):=⟨l[i],List.getElem?_eq_getElem h,List.drop_eq_getElem_cons h⟩
theorem decF {p:Prop} [Decidable p] (h:¬ p):decide p = false:=decide_eq_false h
theorem decT {p:Prop} [Decidable p] (h:p):decide p = true:=decide_eq_true h
theorem strsA_get {l:List (List Nat)} {i:Nat} {x:List Nat} (h:l[i]? = some x):(strsA l)[i]? = some (.str x):=by simp [strsA,h]
theorem strsA_len (l:List (List Nat)):(strsA l).length = l.length:=by simp [strsA]
def idxF (s:List Nat):Nat → List (List Nat) → Int
 | _,[] => -1
 | i,x :: r => if s == x then (i:Int) else idxF s (i + 1) r
theorem idxF_iff (s:List Nat):∀ (i:Nat) (l:List (List Nat)),0 ≤ idxF s i l ↔ l.contains s = true
 | _,[] => by simp [idxF]
 | i,x :: r => by
  have ih:=idxF_iff s (i + 1) r
  simp only [idxF,List.contains_cons]
  by_cases h:(s == x) = true
  ·rw [if_pos h,h]; simp
  ·rw [if_neg h,ih,Bool.eq_false_iff.2 h,Bool.false_or]
theorem idxF_mem (s:List Nat) (i:Nat) (l:List (List Nat)):decide (0 ≤ idxF s i l) = l.contains s:=by
 rw [Bool.eq_iff_iff,decide_eq_true_iff]; exact idxF_iff s i l
def marks (s:List Nat):List AV:=(List.range 256).map fun b => .bool (s.contains b)
theorem marks_len (s:List Nat):(marks s).length = 256:=by simp [marks]
theorem marks_get {s:List Nat} {b:Nat} (h:b < 256):(marks s)[b]? = some (.bool (s.contains b)):=by simp [marks,h]
theorem marks_cell (s:List Nat):(marks s).all AV.isCell = true:=by simp [marks,AV.isCell]
theorem marks_take (s:List Nat):(marks s).take 256 = marks s:=List.take_of_length_le (by rw [marks_len]; exact Nat.le_refl _)
theorem marks_set {s:List Nat} {b:Nat} (h:b < 256):(marks s).set b (.bool true) = marks (s ++ [b]):=by
 apply List.ext_getElem?
 intro k
 rw [List.getElem?_set]
 by_cases hk:b = k
 ·subst hk
  rw [if_pos rfl,if_pos (by rw [marks_len]; exact h),marks_get h]
  simp
 ·rw [if_neg hk]
  by_cases hk2:k < 256
  ·rw [marks_get hk2,marks_get hk2]
   have:¬ k = b:=fun e => hk e.symm
   simp [this]
  ·rw [List.getElem?_eq_none (by rw [marks_len]; omega),List.getElem?_eq_none (by rw [marks_len]; omega)]
theorem marks_clean (s:List Nat):CleanV (.agg (marks s)):=by
 have:∀ l:List Nat,belowA.belowL 0 (l.map fun b => AV.bool (s.contains b)) = true:=fun l => by
  induction l with
  | nil => rfl
  | cons x l ih => rw [List.map_cons,bL_cons,ih]; rfl
 simp only [CleanV,bl_agg]
 exact this _
theorem zero369:T369.zero = marks []:=by kernel_rfl
def BStr (s:List Nat):Prop:=∀ b ∈ s,b < 256
theorem BStr.at {s:List Nat} (h:BStr s) {i b:Nat} (e:s[i]? = some b):b < 256:=h b (List.mem_of_getElem? e)
theorem BStr.drop {s:List Nat} (h:BStr s) (i:Nat):BStr (s.drop i):=fun b hb => h b (List.mem_of_mem_drop hb)
section
variable {Q:Ctx} (hK:K Q)
include hK
theorem index_c {l:List (List Nat)} {s:List Nat} {k:SK} (hl:l.length < 1000000000):Ret Q 258 [.slice k (strsA l),.str s] (.int .i64 (idxF s 0 l)):=fun st => by
 refine callY (N:=19) (ok258 hK) (hK.nx _ _ _ rfl) rfl rfl ?_
 simp only [RS,RT,RZ,Zu,rA,rB,rC,rD,rE,rF,reduceCtorEq,x258,y258,F258,strsA_len]
 refine post_bind (post_for (I:=fun i T st1 => T 0 = .slice k (strsA l) ∧ T 1 = .str s ∧ T 7 = .int .i64 (l.length:Int) ∧ T 8 = .int .i64 (i:Int) ∧ st1 = ⟨st.heap,st.next,[]⟩ ∧ idxF s i (l.drop i) = idxF s 0 l)
  (Q:=fun e T st1 => st1 = ⟨st.heap,st.next,[]⟩ ∧ ((e = .ret ∧ T 4 = .int .i64 (idxF s 0 l)) ∨ (e = .exit 0 ∧ idxF s 0 l = -1))) l.length ?_ ?_ (Nat.zero_le _) ?_) ?_
 ·rintro i T _ hi ⟨h0,h1,h7,h8,rfl,hr⟩
  obtain ⟨x,hx,hd⟩:=drop_get hi
  rw [hd,idxF] at hr
  cases hb:s == x with
  | true =>
   rw [hb,if_pos rfl] at hr
   simp only [RS,RT,RZ,Zu,rA,rB,rC,rD,rE,rF,reduceCtorEq,l258_0,m258_0,h0,h1,h7,h8,hi,strsA_get hx,hb,hr.symm]
  | false =>
   rw [hb,if_neg (by decide)] at hr
   simp only [RS,RT,RZ,Zu,rA,rB,rC,rD,rE,rF,reduceCtorEq,l258_0,m258_0,h0,h1,h7,h8,hi,strsA_get hx,hb,hr,wrapUp (show i < 9223372036854775807 by omega)]
 ·rintro T _ ⟨h0,h1,h7,h8,rfl,hr⟩
  rw [List.drop_length,idxF] at hr
  simp only [RS,RT,RZ,Zu,rA,rB,rC,rD,rE,rF,reduceCtorEq,l258_0,m258_0,h0,h1,h7,h8,hr.symm]
 ·(simp only [RS,RT,RZ,Zu,rA,rB,rC,rD,rE,rF,reduceCtorEq]) <;> first | rfl | exact ⟨rfl,rfl⟩
 ·rintro e T _ ⟨rfl,⟨rfl,h4⟩ | ⟨rfl,h4⟩⟩
  ·simp only [RS,RT,RZ,Zu,rA,rB,rC,rD,rE,rF,reduceCtorEq,h4]
  ·simp only [RS,RT,RZ,Zu,rA,rB,rC,rD,rE,rF,reduceCtorEq,h4]
theorem contains_c {l:List (List Nat)} {s:List Nat} {k:SK} (hl:l.length < 1000000000):Ret Q 196 [.slice k (strsA l),.str s] (.bool (l.contains s)):=fun st => by
 refine callY (N:=9) (ok196 hK) (hK.nx _ _ _ rfl) rfl rfl ?_
 rw [← idxF_mem s 0 l]
 simp only [RS,RT,RZ,Zu,rA,rB,rC,rD,rE,rF,reduceCtorEq,x196,F196,index_c hK hl]
theorem classes_c {s:List Nat} (hs:BStr s) (hl:s.length < 1000000000):Ret Q 375 [.str s] (.agg (marks s)):=fun st => by
 refine callY (N:=15) (ok375 hK) (hK.nx _ _ _ rfl) rfl (marks_clean s) ?_
 simp only [RS,RT,RZ,Zu,rA,rB,rC,rD,rE,rF,reduceCtorEq,x375,F375,zero369]
 refine post_bind (post_for (I:=fun i T st1 => T 0 = .str s ∧ T 2 = .ptr st.next 0 ∧ T 5 = .int .i64 (s.length:Int) ∧ T 6 = .int .i64 (i:Int) ∧ st1.heap st.next = .mem 369 (marks (s.take i)) true 0 ∧ LogOk st.next st1.log)
  (Q:=fun e T st1 => e = .exit 0 ∧ T 2 = .ptr st.next 0 ∧ st1.heap st.next = .mem 369 (marks s) true 0 ∧ LogOk st.next st1.log) s.length ?_ ?_ (Nat.zero_le _) ?_) ?_
 ·rintro i T ⟨h,nx,lg⟩ hi ⟨h0,h2,h5,h6,g,hlg⟩
  simp only at g hlg
  obtain ⟨b,hb,hd⟩:=drop_get hi
  have hb2:=hs.at hb
  have hset:(marks (s.take i)).set b (.bool true) = marks (s.take (i + 1)):=by
   rw [marks_set hb2,List.take_add_one,hb]; rfl
  have hb3:b < (marks (s.take i)).length:=by rw [marks_len]; exact hb2
  simp only [RS,RT,RZ,Zu,rA,rB,rC,rD,rE,rF,reduceCtorEq,l375_0,h0,h2,h5,h6,hi,hb,indexAddrA_arr (tw369 hK) (tw4 hK),T4,hb2,g,hlg,Nat.mul_one,marks_len,splice_set (eq_true hb3),hset,wrapUp (show i < 9223372036854775807 by omega),show b ≤ 255 by omega]
 ·rintro T ⟨h,nx,lg⟩ ⟨h0,h2,h5,h6,g,hlg⟩
  simp only at g hlg
  rw [List.take_length] at g
  simp only [RS,RT,RZ,Zu,rA,rB,rC,rD,rE,rF,reduceCtorEq,l375_0,h0,h2,h5,h6,g,hlg]
 ·(simp only [RS,RT,RZ,Zu,rA,rB,rC,rD,rE,rF,reduceCtorEq]) <;> first | rfl | exact ⟨rfl,rfl⟩
 ·rintro e T ⟨h,nx,lg⟩ ⟨rfl,h2,g,hlg⟩
  simp only at g hlg
  simp only [RS,RT,RZ,Zu,rA,rB,rC,rD,rE,rF,reduceCtorEq,h2,g,hlg,marks_len,marks_take,marks_cell,sto_pos,tw369 hK,cellR_ti,show T369.isAgg = true from rfl,show T369.size = 256 from rfl]
def letters:List Nat:=[97,98,99,100,101,102,103,104,105,106,107,108,109,110,111,112,113,114,115,116,117,118,119,120,121,122,65,66,67,68,69,70,71,72,73,74,75,76,77,78,79,80,81,82,83,84,85,86,87,88,89,90,48,49,50,51,52,53,54,55,56,57,95,39]
def isP (b:Nat):Bool:=letters.contains b
def runL:List Nat → Nat
 | [] => 0
 | b :: r => if isP b then runL r + 1 else 0
theorem run_c {r:List Nat} (hr:BStr r) (hl:r.length < 1000000000) {n p6 p7:Nat} (hn:n ≤ r.length) {st:St} (h6:st.heap p6 = .mem 9 [.str r] true 0) (h7:st.heap p7 = .mem 369 (marks letters) true 0) :
  callW Q (.fn 376) [.int .i64 (n:Int),.ptr p6 0,.ptr p7 0] .normal st = some (.ret (.int .i64 ((n + runL (r.drop n):Nat):Int)),st,none):=by
 refine callY (N:=19) (ok376 hK) (hK.nx _ _ _ rfl) rfl rfl ?_
 simp only [RS,RT,RZ,Zu,rA,rB,rC,rD,rE,rF,reduceCtorEq,x376,y376,F376]
 refine post_bind (post_loop (I:=fun m T st1 => ∃ i,m = r.length - i ∧ i ≤ r.length ∧ T 0 = .int .i64 (i:Int) ∧ T 1 = .ptr p6 0 ∧ T 2 = .ptr p7 0 ∧ st1 = ⟨st.heap,st.next,[]⟩ ∧ i + runL (r.drop i) = n + runL (r.drop n))
  (Q:=fun e T st1 => st1 = ⟨st.heap,st.next,[]⟩ ∧ e = .exit 0 ∧ T 0 = .int .i64 ((n + runL (r.drop n):Nat):Int)) ?_ (r.length - n) _ _ ⟨n,rfl,hn,?_⟩) ?_
 ·rintro m T _ ⟨i,rfl,hi,t0,t1,t2,rfl,hR⟩
  by_cases hi2:i < r.length
  ·obtain ⟨b,hb,hd⟩:=drop_get hi2
   have hb2:=hr.at hb
   have hm:=marks_get (s:=letters) hb2
   rw [hd,runL] at hR
   cases hp:isP b with
   | true =>
    rw [hp,if_pos rfl] at hR
    have hp':letters.contains b = true:=hp
    simp only [RS,RT,RZ,Zu,rA,rB,rC,rD,rE,rF,reduceCtorEq,l376_0,m376_0,t0,t1,t2,h6,h7,hi2,hb,indexAddrA_arr (tw369 hK) (tw4 hK),T4,hb2,Nat.mul_one,hm,hp',wrapUp (show i < 9223372036854775807 by omega)]
    exact ⟨r.length - (i + 1),by omega,i + 1,rfl,by omega,rfl,by omega⟩
   | false =>
    rw [hp,if_neg (by decide),Nat.add_zero] at hR
    have hp':letters.contains b = false:=hp
    simp only [RS,RT,RZ,Zu,rA,rB,rC,rD,rE,rF,reduceCtorEq,l376_0,m376_0,t0,t1,t2,h6,h7,hi2,hb,indexAddrA_arr (tw369 hK) (tw4 hK),T4,hb2,Nat.mul_one,hm,hp',← hR]
  ·have hi3:i = r.length:=by omega
   subst hi3
   rw [List.drop_length,runL,Nat.add_zero] at hR
   simp only [RS,RT,RZ,Zu,rA,rB,rC,rD,rE,rF,reduceCtorEq,l376_0,m376_0,t0,t1,t2,h6,h7,← hR]
 ·simp only [RS,RT,RZ,Zu,rA,rB,rC,rD,rE,rF,reduceCtorEq]
 ·rintro e T _ ⟨rfl,rfl,t0⟩
  simp only [RS,RT,RZ,Zu,rA,rB,rC,rD,rE,rF,reduceCtorEq,t0]
theorem of_c {r:List Nat} {k:Int} {n p6 p3 at_:Nat} (hn:n ≤ r.length) {st:St} (h6:st.heap p6 = .mem 9 [.str r] true 0) (h3:st.heap p3 = .mem 3 [.int .i64 (at_:Int)] true 0) (l6:p6 < st.next) (l3:p3 < st.next) :
  callW Q (.fn 377) [.int .i64 k,.int .i64 (n:Int),.ptr p6 0,.ptr p3 0] .normal st = some (.ret (.tuple [.agg [.int .i64 k,.str (r.take n),.int .i64 (at_:Int)],.bool true]),st,none):=by
 have e6:(p6 = st.next) = False:=eq_false (by omega)
 have e3:(p3 = st.next) = False:=eq_false (by omega)
 have e6':(st.next = p6) = False:=eq_false (by omega)
 have e3':(st.next = p3) = False:=eq_false (by omega)
 refine callY (N:=14) (ok377 hK) (hK.nx _ _ _ rfl) rfl rfl ?_
 simp only [RS,RT,RZ,Zu,rA,rB,rC,rD,rE,rF,reduceCtorEq,x377,y377,kd377_0,F377,h6,h3,e6,e3,e6',e3',sliceA_str (tw9 hK),hn,tw207 hK,T207,not_false_eq_true,Nat.lt_succ_self,Nat.lt_add_one]
end
end Go.Proofs.L06

namespace Go.Proofs.L06
open Go Go.AE
open Nat renaming reduceLT → rA,reduceLeDiff → rB,reduceEqDiff → rC,reduceMul → rD,reduceAdd → rE,reduceSub → rF
set_option maxHeartbeats 4000000
theorem idxB_spec (s:List Nat) (c:Nat):idxB s (c:Int) = -1 ∨ ∃ n:Nat,idxB s (c:Int) = (n:Int) ∧ n < s.length ∧ s[n]? = some c:=by
 unfold idxB
 cases h:s.findIdx? (fun b:Nat => decide ((b:Int) = (c:Int))) with
 | none => exact .inl rfl
 | some n =>
  right
  obtain ⟨h1,h2,_⟩:=List.findIdx?_eq_some_iff_getElem.1 h
  refine ⟨n,rfl,h1,?_⟩
  rw [List.getElem?_eq_getElem h1]
  simp only [decide_eq_true_eq] at h2
  congr 1
  omega
def skipN:Nat → List Nat → Nat
 | 0,_ => 0
 | _ + 1,[] => 0
 | f + 1,b :: r => if b = 32 ∨ b = 9 ∨ b = 10 then skipN f r + 1 else if b = 37 then (if 0 ≤ idxB (b :: r) 10 then (idxB (b :: r) 10).toNat + skipN f ((b :: r).drop (idxB (b :: r) 10).toNat) else r.length + 1) else 0
theorem skipN_nil (f:Nat):skipN f [] = 0:=by cases f <;> rfl
theorem skipN_le:∀ (f:Nat) (l:List Nat),skipN f l ≤ l.length
 | 0,_ => Nat.zero_le _
 | _ + 1,[] => Nat.zero_le _
 | f + 1,b :: r => by
  rw [skipN]
  split
  ·have:=skipN_le f r; simp; omega
  ·split
   ·split
    ·rcases idxB_spec (b :: r) 10 with h | ⟨n,h,h2,h3⟩
     ·rename_i h4; rw [show ((10:Nat):Int) = 10 from rfl] at h; rw [h] at h4; exact absurd h4 (by decide)
     ·rw [show ((10:Nat):Int) = 10 from rfl] at h
      rw [h,Int.toNat_natCast]
      have:=skipN_le f ((b :: r).drop n)
      simp only [List.length_drop] at this
      omega
    ·simp
   ·exact Nat.zero_le _
def skipT (s:List Nat) (i:Nat):Nat:=i + skipN (s.length + 1) (s.drop i)
section
variable {Q:Ctx} (hK:K Q)
include hK
theorem skip_c {s:List Nat} (hl:s.length < 1000000000) {i0:Nat} (hi0:i0 ≤ s.length):Ret Q 356 [.str s,.int .i64 (i0:Int)] (.int .i64 ((skipT s i0:Nat):Int)):=fun st => by
 refine callY (N:=34) (ok356 hK) (hK.nx _ _ _ rfl) rfl rfl ?_
 simp only [RS,RT,RZ,Zu,rA,rB,rC,rD,rE,rF,reduceCtorEq,x356,y356,F356]
 refine post_bind (post_loop (I:=fun f T st1 => ∃ i:Nat,T 0 = .str s ∧ T 1 = .int .i64 (i:Int) ∧ i ≤ s.length ∧ s.length ≤ i + f ∧ i + skipN f (s.drop i) = skipT s i0 ∧ st1 = ⟨st.heap,st.next,[]⟩)
  (Q:=fun e T st1 => st1 = ⟨st.heap,st.next,[]⟩ ∧ ((e = .exit 0 ∧ T 1 = .int .i64 ((skipT s i0:Nat):Int)) ∨ (e = .ret ∧ T 4 = .int .i64 ((skipT s i0:Nat):Int)))) ?_ (s.length + 1) _ _ ⟨i0,?_,?_,hi0,by omega,rfl,rfl⟩) ?_
 ·rintro f T _ ⟨i,t0,t1,hi,hf,hR,rfl⟩
  by_cases hi2:i < s.length
  ·obtain ⟨b,hb,hd⟩:=drop_get hi2
   obtain ⟨f,rfl⟩:∃ g,f = g + 1:=⟨f - 1,by omega⟩
   rw [hd,skipN] at hR
   by_cases h1:b = 32 ∨ b = 9 ∨ b = 10
   ·rw [if_pos h1] at hR
    have hw:=wrapUp (show i < 9223372036854775807 by omega)
    rcases h1 with rfl | rfl | rfl
    all_goals (
     simp only [RS,RT,RZ,Zu,rA,rB,rC,rD,rE,rF,reduceCtorEq,l356_0,m356_0,t0,t1,hi2,hb,Int.cast_ofNat_Int,Int.reduceBEq,hw]
     exact ⟨f,Nat.lt_succ_self f,i + 1,rfl,by omega,by omega,by omega⟩)
   ·rw [if_neg h1] at hR
    rw [not_or,not_or] at h1
    have g1:((b:Int) == 32) = false:=by rw [beq_eq_false_iff_ne]; omega
    have g2:((b:Int) == 9) = false:=by rw [beq_eq_false_iff_ne]; omega
    have g3:((b:Int) == 10) = false:=by rw [beq_eq_false_iff_ne]; omega
    by_cases h2:b = 37
    ·have g4:((b:Int) == 37) = true:=by rw [beq_iff_eq]; omega
     rw [if_pos h2] at hR
     rcases idxB_spec (b :: s.drop (i + 1)) 10 with h3 | ⟨n,h3,h4,h5⟩
     ·rw [show ((10:Nat):Int) = 10 from rfl] at h3
      rw [h3,if_neg (by decide)] at hR
      have hR2:skipT s i0 = s.length:=by rw [← hR]; simp only [List.length_drop]; omega
      simp only [RS,RT,RZ,Zu,rA,rB,rC,rD,rE,rF,reduceCtorEq,l356_0,m356_0,t0,t1,hi2,hi,hb,g1,g2,g3,g4,sliceA_str (tw9 hK),hd,idx374 hK (c:=10) (by decide) (by decide),h3,Int.reduceLE,Int.reduceLT,Int.reduceNeg]
      exact ⟨f,Nat.lt_succ_self f,s.length,rfl,Nat.le_refl _,by omega,by rw [List.drop_length,skipN_nil,hR2]; rfl⟩
     ·rw [show ((10:Nat):Int) = 10 from rfl] at h3
      have hn0:0 < n:=by
       cases n with
       | zero => simp at h5; omega
       | succ n => omega
      have hle:i + n ≤ s.length:=by simp only [List.length_cons,List.length_drop] at h4; omega
      rw [h3,if_pos (by omega),Int.toNat_natCast,← hd,List.drop_drop] at hR
      have hw:IntKind.i64.wrap ((i:Int) + (n:Int)) = ((i + n:Nat):Int):=by rw [wrap64 (by omega) (by omega)]; omega
      have hge:decide ((0:Int) ≤ (n:Int)) = true:=decT (by omega)
      simp only [RS,RT,RZ,Zu,rA,rB,rC,rD,rE,rF,reduceCtorEq,l356_0,m356_0,t0,t1,hi2,hi,hb,g1,g2,g3,g4,sliceA_str (tw9 hK),hd,idx374 hK (c:=10) (by decide) (by decide),h3,hge,hw]
      exact ⟨f,Nat.lt_succ_self f,i + n,rfl,hle,by omega,by rw [← hR]; omega⟩
    ·have g4:((b:Int) == 37) = false:=by rw [beq_eq_false_iff_ne]; omega
     rw [if_neg h2,Nat.add_zero] at hR
     simp only [RS,RT,RZ,Zu,rA,rB,rC,rD,rE,rF,reduceCtorEq,l356_0,m356_0,t0,t1,hi2,hb,g1,g2,g3,g4,← hR]
  ·have hi3:i = s.length:=by omega
   subst hi3
   rw [List.drop_length,skipN_nil,Nat.add_zero] at hR
   simp only [RS,RT,RZ,Zu,rA,rB,rC,rD,rE,rF,reduceCtorEq,l356_0,m356_0,t0,t1,← hR]
 ·simp only [RS,RT,RZ,Zu,rA,rB,rC,rD,rE,rF,reduceCtorEq]
 ·simp only [RS,RT,RZ,Zu,rA,rB,rC,rD,rE,rF,reduceCtorEq]
 ·rintro e T _ ⟨rfl,⟨rfl,t1⟩ | ⟨rfl,t4⟩⟩
  ·simp only [RS,RT,RZ,Zu,rA,rB,rC,rD,rE,rF,reduceCtorEq,t1]
  ·simp only [RS,RT,RZ,Zu,rA,rB,rC,rD,rE,rF,reduceCtorEq,t4]
end
end Go.Proofs.L06

namespace Go.Proofs.L06
open Go Go.AE
open Nat renaming reduceLT → rA,reduceLeDiff → rB,reduceEqDiff → rC,reduceMul → rD,reduceAdd → rE,reduceSub → rF
set_option maxHeartbeats 8000000
def pre2 (r p:List Nat):Bool:=decide (p.length ≤ r.length) && (r.take p.length == p)
def signs:List Nat:=[42,38,43,33,123,125,40,41,46,44,58,92]
def nameLen (r:List Nat):Nat :=
 if runL r + 1 < r.length ∧ r.getD (runL r) 0 = 64 ∧ smallT (r.getD (runL r + 1) 0) = true then runL r + 1 + runL (r.drop (runL r + 1)) else runL r
def tokF (r:List Nat):Option (Int × Nat) :=
 if smallT (r.getD 0 0) then
  (if (r.take (nameLen r) == [111]) = true ∧ 1 < r.length ∧ r.getD 1 0 = 45 then some (3,2)
  else if kwords.contains (r.take (nameLen r)) = true then some (4,nameLen r) else some (1,nameLen r))
 else if capT (r.getD 0 0) then some (2,runL r)
 else if pre2 r [45,62] || (pre2 r [61,62] || pre2 r [60,61]) then some (3,2)
 else if pre2 r [45,111] then (if r.length = 2 ∨ isP (r.getD 2 0) = false then some (3,2) else none)
 else if 0 ≤ idxB signs (r.getD 0 0) then some (3,1) else none
def tokR (r:List Nat) (i:Nat):AV:=match tokF r with
 | some (k,n) => .tuple [.agg [.int .i64 k,.str (r.take n),.int .i64 (i:Int)],.bool true]
 | none => .tuple [.agg [.int .i64 0,.str [],.int .i64 0],.bool false]
theorem tokR_some {r:List Nat} {i:Nat} {k:Int} {n:Nat} (h:tokF r = some (k,n)):tokR r i = .tuple [.agg [.int .i64 k,.str (r.take n),.int .i64 (i:Int)],.bool true]:=by rw [tokR,h]
theorem tokR_none {r:List Nat} {i:Nat} (h:tokF r = none):tokR r i = .tuple [.agg [.int .i64 0,.str [],.int .i64 0],.bool false]:=by rw [tokR,h]
theorem tokR_clean (r:List Nat) (i:Nat):CleanV (tokR r i):=by
 unfold tokR
 split <;> rfl
theorem runL_le:∀ r:List Nat,runL r ≤ r.length
 | [] => Nat.zero_le _
 | b :: r => by
  have:=runL_le r
  rw [runL]
  split <;> simp <;> omega
theorem nameLen_le (r:List Nat):nameLen r ≤ r.length:=by
 unfold nameLen
 split
 ·have:=runL_le (r.drop (runL r + 1)); simp at this; omega
 ·exact runL_le r
theorem letters_B:BStr letters:=by unfold BStr letters; decide
theorem lit_letters:([97,98,99,100,101,102,103,104,105,106,107,108,109,110,111,112,113,114,115,116,117,118,119,120,121,122,65,66,67,68,69,70,71,72,73,74,75,76,77,78,79,80,81,82,83,84,85,86,87,88,89,90,48,49,50,51,52,53,54,55,56,57,95,39]:List Nat) = letters:=rfl
theorem lit_signs:([42,38,43,33,123,125,40,41,46,44,58,92]:List Nat) = signs:=rfl
theorem beqT {a:Nat} {b:Int} (h:(a:Int) = b):((a:Int) == b) = true:=by rw [h]; exact beq_self_eq_true _
theorem beqF {a:Nat} {b:Int} (h:(a:Int) ≠ b):((a:Int) == b) = false:=beq_eq_false_iff_ne.2 h
section
variable {Q:Ctx} (hK:K Q)
include hK
theorem run0_c {r:List Nat} (hr:BStr r) (hl:r.length < 1000000000) {p6 p7:Nat} {st:St} (h6:st.heap p6 = .mem 9 [.str r] true 0) (h7:st.heap p7 = .mem 369 (marks letters) true 0) :
  callW Q (.fn 376) [.int .i64 0,.ptr p6 0,.ptr p7 0] .normal st = some (.ret (.int .i64 ((runL r:Nat):Int)),st,none):=by
 have:=run_c hK hr hl (n:=0) (Nat.zero_le _) h6 h7
 rw [Nat.zero_add] at this
 exact this
theorem ofL_c {r:List Nat} {k ni:Int} {n p6 p3 at_:Nat} (hni:((n:Nat):Int) = ni) (hn:n ≤ r.length) {st:St} (h6:st.heap p6 = .mem 9 [.str r] true 0) (h3:st.heap p3 = .mem 3 [.int .i64 (at_:Int)] true 0) (l6:p6 < st.next) (l3:p3 < st.next) :
  callW Q (.fn 377) [.int .i64 k,.int .i64 ni,.ptr p6 0,.ptr p3 0] .normal st = some (.ret (.tuple [.agg [.int .i64 k,.str (r.take n),.int .i64 (at_:Int)],.bool true]),st,none):=by
 subst hni
 exact of_c hK hn h6 h3 l6 l3
theorem token_c {s:List Nat} (hs:BStr s) (hl:s.length < 1000000000) {i:Nat} (hi:i < s.length):Ret Q 357 [.str s,.int .i64 (i:Int)] (tokR (s.drop i) i):=fun st => by
 refine callY (N:=126) (ok357 hK) (hK.nx _ _ _ rfl) rfl (tokR_clean _ _) ?_
 have hrB:=hs.drop i
 obtain ⟨r,hr⟩:∃ r,s.drop i = r:=⟨_,rfl⟩
 rw [hr] at hrB ⊢
 have hrl:r.length = s.length - i:=by rw [← hr]; simp
 have hl':r.length < 1000000000:=by omega
 obtain ⟨b,hb⟩:∃ b,r[0]? = some b:=⟨_,List.getElem?_eq_getElem (show 0 < r.length by omega)⟩
 have hb0:r.getD 0 0 = b:=by rw [List.getD_eq_getElem?_getD,hb]; rfl
 have hile:i ≤ s.length:=by omega
 have hcl:=classes_c hK (s:=letters) letters_B (by decide)
 have hr0:=fun {p6 p7:Nat} {st:St} => run0_c hK hrB hl' (p6:=p6) (p7:=p7) (st:=st)
 have of2:=fun (h:2 ≤ r.length) {k:Int} {p6 p3:Nat} {st:St} => ofL_c hK (r:=r) (k:=k) (ni:=2) (n:=2) (p6:=p6) (p3:=p3) (at_:=i) rfl h (st:=st)
 have of1:=fun {k:Int} {p6 p3:Nat} {st:St} => ofL_c hK (r:=r) (k:=k) (ni:=1) (n:=1) (p6:=p6) (p3:=p3) (at_:=i) rfl (by omega) (st:=st)
 by_cases hsm:smallT b = true
 ·have hname:(¬ (runL r + 1 < r.length) ∧ nameLen r = runL r) ∨ (∃ c:Nat,runL r + 1 < r.length ∧ r[runL r]? = some c ∧ ((c:Int) == 64) = false ∧ nameLen r = runL r) ∨
    (∃ (c d:Nat),runL r + 1 < r.length ∧ r[runL r]? = some c ∧ ((c:Int) == 64) = true ∧ r[runL r + 1]? = some d ∧ smallT d = false ∧ nameLen r = runL r) ∨
    (∃ (c d:Nat),runL r + 1 < r.length ∧ r[runL r]? = some c ∧ ((c:Int) == 64) = true ∧ r[runL r + 1]? = some d ∧ smallT d = true ∧ nameLen r = runL r + 1 + runL (r.drop (runL r + 1))):=by
   by_cases h1:runL r + 1 < r.length
   ·obtain ⟨c,hc⟩:∃ c,r[runL r]? = some c:=⟨_,List.getElem?_eq_getElem (show runL r < r.length by omega)⟩
    obtain ⟨d,hd⟩:∃ d,r[runL r + 1]? = some d:=⟨_,List.getElem?_eq_getElem h1⟩
    have ec:r.getD (runL r) 0 = c:=by rw [List.getD_eq_getElem?_getD,hc]; rfl
    have ed:r.getD (runL r + 1) 0 = d:=by rw [List.getD_eq_getElem?_getD,hd]; rfl
    unfold nameLen
    rw [ec,ed]
    by_cases h2:c = 64
    ·cases h3:smallT d with
     | true => exact .inr (.inr (.inr ⟨c,d,h1,hc,beqT (by omega),hd,h3,if_pos ⟨h1,h2,rfl⟩⟩))
     | false => exact .inr (.inr (.inl ⟨c,d,h1,hc,beqT (by omega),hd,h3,if_neg (by simp)⟩))
    ·exact .inr (.inl ⟨c,h1,hc,beqF (by omega),if_neg (by simp [h2])⟩)
   ·exact .inl ⟨h1,by unfold nameLen; rw [if_neg (by simp [h1])]⟩
  have hnl:=nameLen_le r
  have htail:∀ N,nameLen r = N → (∃ c:Nat,(r.take N == [111]) = true ∧ 1 < r.length ∧ r[1]? = some c ∧ ((c:Int) == 45) = true ∧ tokF r = some (3,2)) ∨
    (((r.take N == [111]) = false ∨ ((r.take N == [111]) = true ∧ ¬ (1 < r.length)) ∨ ∃ c:Nat,(r.take N == [111]) = true ∧ 1 < r.length ∧ r[1]? = some c ∧ ((c:Int) == 45) = false) ∧
     ((kwords.contains (r.take N) = true ∧ tokF r = some (4,N)) ∨ (kwords.contains (r.take N) = false ∧ tokF r = some (1,N)))):=by
   intro N hN
   have key:∀ h:¬ ((r.take N == [111]) = true ∧ 1 < r.length ∧ r.getD 1 0 = 45),(kwords.contains (r.take N) = true ∧ tokF r = some (4,N)) ∨ (kwords.contains (r.take N) = false ∧ tokF r = some (1,N)):=fun h => by
    unfold tokF
    rw [hb0,if_pos hsm,hN,if_neg h]
    cases hk:kwords.contains (r.take N) with
    | true => exact .inl ⟨rfl,by rw [if_pos rfl]⟩
    | false => exact .inr ⟨rfl,by rw [if_neg (by decide)]⟩
   cases g1:r.take N == [111] with
   | false => exact .inr ⟨.inl rfl,key (by rw [g1]; simp)⟩
   | true =>
    by_cases g2:1 < r.length
    ·obtain ⟨c,hc⟩:∃ c,r[1]? = some c:=⟨_,List.getElem?_eq_getElem g2⟩
     have ec:r.getD 1 0 = c:=by rw [List.getD_eq_getElem?_getD,hc]; rfl
     by_cases g3:c = 45
     ·refine .inl ⟨c,rfl,g2,hc,beqT (by omega),?_⟩
      unfold tokF
      rw [hb0,if_pos hsm,hN,if_pos ⟨g1,g2,by rw [ec,g3]⟩]
     ·exact .inr ⟨.inr (.inr ⟨c,rfl,g2,hc,beqF (by omega)⟩),key (by rw [ec]; simp [g3])⟩
    ·exact .inr ⟨.inr (.inl ⟨rfl,g2⟩),key (by simp [g2])⟩
  have hkw:=fun (N:Nat) => contains_c hK (l:=kwords) (s:=r.take N) (k:=.exact) (by decide)
  have fin:∀ N,nameLen r = N → N ≤ r.length:=fun N h => h ▸ hnl
  have hw:=wrapUp (show runL r < 9223372036854775807 by have:=runL_le r; omega)
  have hrn:runL r ≤ r.length:=runL_le r
  rcases hname with ⟨h1,hN⟩ | ⟨c,h1,hc,h2,hN⟩ | ⟨c,d,h1,hc,h2,hd,h3,hN⟩ | ⟨c,d,h1,hc,h2,hd,h3,hN⟩
  ·have hNle:=fin _ hN
   have ofN:=fun {k:Int} {p6 p3:Nat} {st:St} => of_c hK (r:=r) (k:=k) (n:=runL r) (p6:=p6) (p3:=p3) (at_:=i) hNle (st:=st)
   simp only [RS,RT,RZ,Zu,rA,rB,rC,rD,rE,rF,reduceCtorEq,x357,kd357_0,F357,sliceA_str (tw9 hK),hile,hr,lit_letters,lit_signs,hcl,zero369,marks_len,marks_cell,sto_pos,hb,small_c hK,hsm,hr0,hw,h1]
   rcases htail _ hN with ⟨c1,g1,g2,hc1,g3,hT⟩ | ⟨hm,⟨hk,hT⟩ | ⟨hk,hT⟩⟩
   ·have of2':=fun {k:Int} {p6 p3:Nat} {st:St} => of2 g2 (k:=k) (p6:=p6) (p3:=p3) (st:=st)
    have g2':=decT (show (1:Int) < (r.length:Int) by omega)
    rw [tokR_some hT]
    simp only [RS,RT,RZ,Zu,rA,rB,rC,rD,rE,rF,reduceCtorEq,kd357_0,F357,sliceA_str (tw9 hK),hNle,g1,g2',hc1,g3,of2',tw207 hK,T207]
   all_goals (
    rw [tokR_some hT]
    rcases hm with g1 | ⟨g1,g2⟩ | ⟨c1,g1,g2,hc1,g3⟩
    ·simp only [RS,RT,RZ,Zu,rA,rB,rC,rD,rE,rF,reduceCtorEq,kd357_0,F357,sliceA_str (tw9 hK),hNle,g1,kw_c hK,hkw,hk,ofN,tw207 hK,T207]
    ·have g2':=decF (show ¬ (1:Int) < (r.length:Int) by omega)
     simp only [RS,RT,RZ,Zu,rA,rB,rC,rD,rE,rF,reduceCtorEq,kd357_0,F357,sliceA_str (tw9 hK),hNle,g1,g2',kw_c hK,hkw,hk,ofN,tw207 hK,T207]
    ·have g2':=decT (show (1:Int) < (r.length:Int) by omega)
     simp only [RS,RT,RZ,Zu,rA,rB,rC,rD,rE,rF,reduceCtorEq,kd357_0,F357,sliceA_str (tw9 hK),hNle,g1,g2',hc1,g3,kw_c hK,hkw,hk,ofN,tw207 hK,T207])
  ·have hNle:=fin _ hN
   have ofN:=fun {k:Int} {p6 p3:Nat} {st:St} => of_c hK (r:=r) (k:=k) (n:=runL r) (p6:=p6) (p3:=p3) (at_:=i) hNle (st:=st)
   simp only [RS,RT,RZ,Zu,rA,rB,rC,rD,rE,rF,reduceCtorEq,x357,kd357_0,F357,sliceA_str (tw9 hK),hile,hr,lit_letters,lit_signs,hcl,zero369,marks_len,marks_cell,sto_pos,hb,small_c hK,hsm,hr0,hw,h1,hc,h2]
   rcases htail _ hN with ⟨c1,g1,g2,hc1,g3,hT⟩ | ⟨hm,⟨hk,hT⟩ | ⟨hk,hT⟩⟩
   ·have of2':=fun {k:Int} {p6 p3:Nat} {st:St} => of2 g2 (k:=k) (p6:=p6) (p3:=p3) (st:=st)
    have g2':=decT (show (1:Int) < (r.length:Int) by omega)
    rw [tokR_some hT]
    simp only [RS,RT,RZ,Zu,rA,rB,rC,rD,rE,rF,reduceCtorEq,kd357_0,F357,sliceA_str (tw9 hK),hNle,g1,g2',hc1,g3,of2',tw207 hK,T207]
   all_goals (
    rw [tokR_some hT]
    rcases hm with g1 | ⟨g1,g2⟩ | ⟨c1,g1,g2,hc1,g3⟩
    ·simp only [RS,RT,RZ,Zu,rA,rB,rC,rD,rE,rF,reduceCtorEq,kd357_0,F357,sliceA_str (tw9 hK),hNle,g1,kw_c hK,hkw,hk,ofN,tw207 hK,T207]
    ·have g2':=decF (show ¬ (1:Int) < (r.length:Int) by omega)
     simp only [RS,RT,RZ,Zu,rA,rB,rC,rD,rE,rF,reduceCtorEq,kd357_0,F357,sliceA_str (tw9 hK),hNle,g1,g2',kw_c hK,hkw,hk,ofN,tw207 hK,T207]
    ·have g2':=decT (show (1:Int) < (r.length:Int) by omega)
     simp only [RS,RT,RZ,Zu,rA,rB,rC,rD,rE,rF,reduceCtorEq,kd357_0,F357,sliceA_str (tw9 hK),hNle,g1,g2',hc1,g3,kw_c hK,hkw,hk,ofN,tw207 hK,T207])
  ·have hNle:=fin _ hN
   have ofN:=fun {k:Int} {p6 p3:Nat} {st:St} => of_c hK (r:=r) (k:=k) (n:=runL r) (p6:=p6) (p3:=p3) (at_:=i) hNle (st:=st)
   simp only [RS,RT,RZ,Zu,rA,rB,rC,rD,rE,rF,reduceCtorEq,x357,kd357_0,F357,sliceA_str (tw9 hK),hile,hr,lit_letters,lit_signs,hcl,zero369,marks_len,marks_cell,sto_pos,hb,small_c hK,hsm,hr0,hw,h1,hc,h2,hd,h3]
   rcases htail _ hN with ⟨c1,g1,g2,hc1,g3,hT⟩ | ⟨hm,⟨hk,hT⟩ | ⟨hk,hT⟩⟩
   ·have of2':=fun {k:Int} {p6 p3:Nat} {st:St} => of2 g2 (k:=k) (p6:=p6) (p3:=p3) (st:=st)
    have g2':=decT (show (1:Int) < (r.length:Int) by omega)
    rw [tokR_some hT]
    simp only [RS,RT,RZ,Zu,rA,rB,rC,rD,rE,rF,reduceCtorEq,kd357_0,F357,sliceA_str (tw9 hK),hNle,g1,g2',hc1,g3,of2',tw207 hK,T207]
   all_goals (
    rw [tokR_some hT]
    rcases hm with g1 | ⟨g1,g2⟩ | ⟨c1,g1,g2,hc1,g3⟩
    ·simp only [RS,RT,RZ,Zu,rA,rB,rC,rD,rE,rF,reduceCtorEq,kd357_0,F357,sliceA_str (tw9 hK),hNle,g1,kw_c hK,hkw,hk,ofN,tw207 hK,T207]
    ·have g2':=decF (show ¬ (1:Int) < (r.length:Int) by omega)
     simp only [RS,RT,RZ,Zu,rA,rB,rC,rD,rE,rF,reduceCtorEq,kd357_0,F357,sliceA_str (tw9 hK),hNle,g1,g2',kw_c hK,hkw,hk,ofN,tw207 hK,T207]
    ·have g2':=decT (show (1:Int) < (r.length:Int) by omega)
     simp only [RS,RT,RZ,Zu,rA,rB,rC,rD,rE,rF,reduceCtorEq,kd357_0,F357,sliceA_str (tw9 hK),hNle,g1,g2',hc1,g3,kw_c hK,hkw,hk,ofN,tw207 hK,T207])
  ·obtain ⟨m,hm⟩:∃ m,runL r + 1 + runL (r.drop (runL r + 1)) = m:=⟨_,rfl⟩
   have hr1:=fun {p6 p7:Nat} {st:St} => run_c hK hrB hl' (n:=runL r + 1) (show runL r + 1 ≤ r.length by omega) (p6:=p6) (p7:=p7) (st:=st)
   rw [hm] at hN
   simp only [hm] at hr1
   have hNle:=fin _ hN
   have ofN:=fun {k:Int} {p6 p3:Nat} {st:St} => of_c hK (r:=r) (k:=k) (n:=m) (p6:=p6) (p3:=p3) (at_:=i) hNle (st:=st)
   simp only [RS,RT,RZ,Zu,rA,rB,rC,rD,rE,rF,reduceCtorEq,x357,kd357_0,F357,sliceA_str (tw9 hK),hile,hr,lit_letters,lit_signs,hcl,zero369,marks_len,marks_cell,sto_pos,hb,small_c hK,hsm,hr0,hw,h1,hc,h2,hd,h3,hr1]
   rcases htail _ hN with ⟨c1,g1,g2,hc1,g3,hT⟩ | ⟨hm,⟨hk,hT⟩ | ⟨hk,hT⟩⟩
   ·have of2':=fun {k:Int} {p6 p3:Nat} {st:St} => of2 g2 (k:=k) (p6:=p6) (p3:=p3) (st:=st)
    have g2':=decT (show (1:Int) < (r.length:Int) by omega)
    rw [tokR_some hT]
    simp only [RS,RT,RZ,Zu,rA,rB,rC,rD,rE,rF,reduceCtorEq,kd357_0,F357,sliceA_str (tw9 hK),hNle,g1,g2',hc1,g3,of2',tw207 hK,T207]
   all_goals (
    rw [tokR_some hT]
    rcases hm with g1 | ⟨g1,g2⟩ | ⟨c1,g1,g2,hc1,g3⟩
    ·simp only [RS,RT,RZ,Zu,rA,rB,rC,rD,rE,rF,reduceCtorEq,kd357_0,F357,sliceA_str (tw9 hK),hNle,g1,kw_c hK,hkw,hk,ofN,tw207 hK,T207]
    ·have g2':=decF (show ¬ (1:Int) < (r.length:Int) by omega)
     simp only [RS,RT,RZ,Zu,rA,rB,rC,rD,rE,rF,reduceCtorEq,kd357_0,F357,sliceA_str (tw9 hK),hNle,g1,g2',kw_c hK,hkw,hk,ofN,tw207 hK,T207]
    ·have g2':=decT (show (1:Int) < (r.length:Int) by omega)
     simp only [RS,RT,RZ,Zu,rA,rB,rC,rD,rE,rF,reduceCtorEq,kd357_0,F357,sliceA_str (tw9 hK),hNle,g1,g2',hc1,g3,kw_c hK,hkw,hk,ofN,tw207 hK,T207])
 ·have hsm':smallT b = false:=by simpa using hsm
  have tb:∀ {x},tokF r = x ↔ (if capT b = true then some (2,runL r) else if (pre2 r [45,62] || (pre2 r [61,62] || pre2 r [60,61])) = true then some (3,2)
   else if pre2 r [45,111] = true then (if r.length = 2 ∨ isP (r.getD 2 0) = false then some (3,2) else none) else if 0 ≤ idxB signs b then some (3,1) else none) = x:=by
   intro x
   unfold tokF
   rw [hb0,if_neg hsm]
  have hp:=fun (p:List Nat) => pre381 hK (s:=r) (p:=p)
  have hrn:runL r ≤ r.length:=runL_le r
  have ofN:=fun {k:Int} {p6 p3:Nat} {st:St} => of_c hK (r:=r) (k:=k) (n:=runL r) (p6:=p6) (p3:=p3) (at_:=i) hrn (st:=st)
  have p2:∀ p:List Nat,p.length = 2 → pre2 r p = true → 2 ≤ r.length:=fun p h1 h2 => by
   simp only [pre2,Bool.and_eq_true,decide_eq_true_eq,h1] at h2
   exact h2.1
  have hpc:=fun (p:List Nat) => show (decide (p.length ≤ r.length) && (r.take p.length == p)) = pre2 r p from rfl
  simp only [hpc] at hp
  simp only [RS,RT,RZ,Zu,rA,rB,rC,rD,rE,rF,reduceCtorEq,x357,kd357_0,F357,sliceA_str (tw9 hK),hile,hr,lit_letters,lit_signs,hcl,zero369,marks_len,marks_cell,sto_pos,hb,small_c hK,hsm']
  cases hcap:capT b with
  | true =>
   rw [tokR_some (tb.2 (by rw [if_pos hcap]))]
   simp only [RS,RT,RZ,Zu,rA,rB,rC,rD,rE,rF,reduceCtorEq,kd357_0,F357,cap_c hK,hcap,hr0,ofN,tw207 hK,T207]
  | false =>
   have tb2:=fun {x} => (tb (x:=x))
   simp only [hcap,Bool.false_eq_true,if_false] at tb2
   by_cases hpp:(pre2 r [45,62] || (pre2 r [61,62] || pre2 r [60,61])) = true
   ·rw [tokR_some (tb2.2 (by rw [if_pos hpp]))]
    have h2:2 ≤ r.length:=by
     simp only [Bool.or_eq_true] at hpp
     rcases hpp with h | h | h <;> exact p2 _ rfl h
    have of2':=fun {k:Int} {p6 p3:Nat} {st:St} => of2 h2 (k:=k) (p6:=p6) (p3:=p3) (st:=st)
    cases e1:pre2 r [45,62] <;> cases e2:pre2 r [61,62] <;> cases e3:pre2 r [60,61] <;> first
     | (simp [e1,e2,e3] at hpp; done)
     | simp only [RS,RT,RZ,Zu,rA,rB,rC,rD,rE,rF,reduceCtorEq,kd357_0,F357,cap_c hK,hcap,hp,e1,e2,e3,of2',tw207 hK,T207]
   ·have e1:pre2 r [45,62] = false:=by revert hpp; cases pre2 r [45,62] <;> simp
    have e2:pre2 r [61,62] = false:=by revert hpp; cases pre2 r [61,62] <;> simp
    have e3:pre2 r [60,61] = false:=by revert hpp; cases pre2 r [60,61] <;> simp
    cases e4:pre2 r [45,111] with
    | true =>
     have h2:2 ≤ r.length:=p2 _ rfl e4
     have of2':=fun {k:Int} {p6 p3:Nat} {st:St} => of2 h2 (k:=k) (p6:=p6) (p3:=p3) (st:=st)
     by_cases h3:r.length = 2
     ·rw [tokR_some (tb2.2 (by rw [if_neg hpp,if_pos e4,if_pos (.inl h3)]))]
      have h4:((r.length:Int) == 2) = true:=beqT (by omega)
      simp only [RS,RT,RZ,Zu,rA,rB,rC,rD,rE,rF,reduceCtorEq,kd357_0,F357,cap_c hK,hcap,hp,e1,e2,e3,e4,h4,of2',tw207 hK,T207]
     ·have h4:((r.length:Int) == 2) = false:=beqF (by omega)
      obtain ⟨c,hc⟩:∃ c,r[2]? = some c:=⟨_,List.getElem?_eq_getElem (show 2 < r.length by omega)⟩
      have ec:r.getD 2 0 = c:=by rw [List.getD_eq_getElem?_getD,hc]; rfl
      have hc2:=hrB.at hc
      have hm:=marks_get (s:=letters) hc2
      cases h5:isP c with
      | false =>
       have h5':letters.contains c = false:=h5
       rw [tokR_some (tb2.2 (by rw [if_neg hpp,if_pos e4,if_pos (.inr (by rw [ec]; exact h5))]))]
       simp only [RS,RT,RZ,Zu,rA,rB,rC,rD,rE,rF,reduceCtorEq,kd357_0,F357,cap_c hK,hcap,hp,e1,e2,e3,e4,h4,hc,hc2,hm,h5',indexAddrA_arr (tw369 hK) (tw4 hK),T4,Nat.mul_one,of2',tw207 hK,T207]
      | true =>
       have h5':letters.contains c = true:=h5
       rw [tokR_none (tb2.2 (by rw [if_neg hpp,if_pos e4,if_neg (by rw [ec,h5]; simp [h3])]))]
       simp only [RS,RT,RZ,Zu,rA,rB,rC,rD,rE,rF,reduceCtorEq,kd357_0,F357,cap_c hK,hcap,hp,e1,e2,e3,e4,h4,hc,hc2,hm,h5',indexAddrA_arr (tw369 hK) (tw4 hK),T4,Nat.mul_one,tw207 hK,T207]
    | false =>
     have hb6:=hrB.at hb
     have i374:=idx374 hK (s:=signs) (c:=(b:Int)) (by omega) (by omega)
     by_cases h6:0 ≤ idxB signs b
     ·rw [tokR_some (tb2.2 (by rw [if_neg hpp,if_neg (by rw [e4]; decide),if_pos h6]))]
      simp only [RS,RT,RZ,Zu,rA,rB,rC,rD,rE,rF,reduceCtorEq,kd357_0,F357,cap_c hK,hcap,hp,e1,e2,e3,e4,i374,h6,of1,tw207 hK,T207]
     ·rw [tokR_none (tb2.2 (by rw [if_neg hpp,if_neg (by rw [e4]; decide),if_neg h6]))]
      simp only [RS,RT,RZ,Zu,rA,rB,rC,rD,rE,rF,reduceCtorEq,kd357_0,F357,cap_c hK,hcap,hp,e1,e2,e3,e4,i374,h6,tw207 hK,T207]
end
end Go.Proofs.L06

namespace Go.Proofs.L06
open Go Go.AE
open Nat renaming reduceLT → rA,reduceLeDiff → rB,reduceEqDiff → rC,reduceMul → rD,reduceAdd → rE,reduceSub → rF
set_option maxHeartbeats 8000000
structure Grow (a b:St):Prop where
 heap:∀ q,q < a.next → b.heap q = a.heap q
 next:a.next ≤ b.next
 log:∀ l ∈ b.log,l ∈ a.log ∨ a.next ≤ l
 keep:∀ l ∈ a.log,l ∈ b.log
abbrev Tok:=Int × List Nat × Nat
def tokA (t:Tok):AV:=.agg [.int .i64 t.1,.str t.2.1,.int .i64 (t.2.2:Int)]
def scanG (s:List Nat):Nat → Nat → Nat → List Tok → List Tok × Option (Nat × Int)
 | 0,_,_,acc => (acc,none)
 | f + 1,i,m,acc => if i < s.length then
   (match tokF (s.drop i) with
   | none => (acc,some (i,10))
   | some (k,n) => if m = 6000 then (acc,some (i,2)) else if (k = 1 ∨ k = 2) ∧ 40 < n then (acc,some (i,11)) else scanG s f (skipT s (i + n)) (m + 1) (acc ++ [(k,(s.drop i).take n,i)]))
  else (acc,none)
theorem small256:((List.range 256).all fun b => !(smallT (b:Int)) || isP b) = true:=by kernel_rfl
theorem small_isP (b:Nat) (h:smallT b = true):isP b = true:=by
 have h1:b < 256:=by simp only [smallT,Bool.and_eq_true,decide_eq_true_eq] at h; omega
 have:=List.all_eq_true.1 small256 b (List.mem_range.2 h1)
 rw [h] at this
 simpa using this
theorem cap256:((List.range 256).all fun b => !(capT (b:Int)) || isP b) = true:=by kernel_rfl
theorem cap_isP (b:Nat) (h:capT b = true):isP b = true:=by
 have h1:b < 256:=by simp only [capT,Bool.and_eq_true,decide_eq_true_eq] at h; omega
 have:=List.all_eq_true.1 cap256 b (List.mem_range.2 h1)
 rw [h] at this
 simpa using this
theorem runL_pos {b:Nat} {r:List Nat} (h:isP b = true):1 ≤ runL (b :: r):=by rw [runL,if_pos h]; omega
theorem pre2_len {r p:List Nat} (h:pre2 r p = true):p.length ≤ r.length:=by
 simp only [pre2,Bool.and_eq_true,decide_eq_true_eq] at h; exact h.1
theorem tokF_bound {r:List Nat} {k:Int} {n:Nat} (hr:0 < r.length) (h:tokF r = some (k,n)):1 ≤ n ∧ n ≤ r.length:=by
 obtain ⟨b,t,rfl⟩:∃ b t,r = b :: t:=by cases r with | nil => simp at hr | cons b t => exact ⟨b,t,rfl⟩
 have hle:=nameLen_le (b :: t)
 unfold tokF at h
 simp only [List.getD_cons_zero] at h
 split at h
 ·rename_i hs
  have hp:=runL_pos (r:=t) (small_isP b hs)
  have hn:1 ≤ nameLen (b :: t):=by unfold nameLen; split <;> omega
  split at h
  ·rename_i h2; cases h; exact ⟨by omega,h2.2.1⟩
  ·split at h <;> (cases h; exact ⟨hn,hle⟩)
 ·split at h
  ·rename_i hc
   have hp:=runL_pos (r:=t) (cap_isP b hc)
   cases h
   exact ⟨hp,runL_le _⟩
  ·split at h
   ·rename_i h2
    cases h
    simp only [Bool.or_eq_true] at h2
    refine ⟨by omega,?_⟩
    rcases h2 with h2 | h2 | h2 <;> exact pre2_len h2
   ·split at h
    ·rename_i h2
     split at h
     ·cases h; exact ⟨by omega,pre2_len h2⟩
     ·cases h
    ·split at h
     ·cases h; exact ⟨by omega,hr⟩
     ·cases h
theorem skipT_le {s:List Nat} {i:Nat} (h:i ≤ s.length):i ≤ skipT s i ∧ skipT s i ≤ s.length:=by
 have:=skipN_le (s.length + 1) (s.drop i)
 unfold skipT
 simp only [List.length_drop] at this
 omega
def stopV (i:Nat) (e:Int):AV:=.iface 333 (.agg [.int .i64 (i:Int),.int .i64 e])
def scanE:Option (Nat × Int) → EX
 | none => .exit 0
 | some (i,e) => .pan (stopV i e)
section
variable {Q:Ctx} (hK:K Q)
include hK
theorem toks_loop {s:List Nat} (hs:BStr s) (hl:s.length < 1000000000) {L p n0:Nat} {I:List Tok → St → Prop} (hp:p < n0) (hIp:∀ a st,I a st → st.heap p = .mem 9 [.str s] true 0 ∧ n0 ≤ st.next) (hIg:∀ a st st2,I a st → Grow st st2 → I a st2)
  (hy:∀ a t st,a.length < 6000 → I a st → ∃ st',callW Q (.yield L) [tokA t] .normal st = some (.ret (.bool true),st',none) ∧ I (a ++ [t]) st' ∧ ∀ q e cs f z,n0 ≤ q → q < st.next → st.heap q = .mem e cs f z → st'.heap q = .mem e cs f z)
  {R:List Tok × Option (Nat × Int)}:∀ f T st,(∃ (i m:Nat) (a:List Tok),a.length = m ∧ T 0 = .func (.yield L) [] [] ∧ T 1 = .ptr p 0 ∧ T 3 = .int .i64 ((m:Nat):Int) ∧ T 4 = .int .i64 ((i:Nat):Int) ∧ m ≤ 6000 ∧ i ≤ s.length ∧ s.length < i + f ∧ I a st ∧ scanG s f i m a = R) →
   Post 62 [] none (execY (callW Q) Q false 355 none (.loop l355_0) ⟨T,62,[],none⟩ st) fun e T st' => e = scanE R.2 ∧ I R.1 st':=by
 refine post_loop fun f T st => ?_
 rintro ⟨i,m,a,ham,t0,t1,t3,t4,hm,hi,hf,hI,hR⟩
 obtain ⟨g0,hn0⟩:=hIp a st hI
 obtain ⟨h,nx,lg⟩:=st
 simp only at g0 hn0
 obtain ⟨f,rfl⟩:∃ g,f = g + 1:=⟨f - 1,by omega⟩
 rw [scanG] at hR
 have pne:(p = nx) = False:=eq_false (by omega)
 by_cases hi2:i < s.length
 ·rw [if_pos hi2] at hR
  have htok:=token_c hK hs hl hi2
  have grow:∀ o1 o2,Grow ⟨h,nx,lg⟩ ⟨upd (upd h nx o1) nx o2,nx + 1,nx :: lg⟩:=fun o1 o2 => ⟨fun q hq => by simp only at hq ⊢; rw [upd_ne _ _ (by omega),upd_ne _ _ (by omega)],by simp,fun l hl => by
   rcases List.mem_cons.1 hl with rfl | hl
   ·exact .inr (Nat.le_refl _)
   ·exact .inl hl,fun l hl => List.mem_cons_of_mem _ hl⟩
  cases hT:tokF (s.drop i) with
  | none =>
   rw [hT] at hR
   simp only at hR
   rw [tokR_none hT] at htok
   subst hR
   simp only [RS,RT,RZ,Zu,rA,rB,rC,rD,rE,rF,reduceCtorEq,l355_0,m355_0,t0,t1,t3,t4,g0,pne,hi2,htok,gA_iface,tw333 hK,ifaceK_some ni333,scanE,stopV]
   exact hIg _ _ _ hI (grow _ _)
  | some kn =>
   obtain ⟨k,n⟩:=kn
   rw [hT] at hR
   simp only at hR
   rw [tokR_some hT] at htok
   obtain ⟨hn1,hn2⟩:=tokF_bound (by simp; omega) hT
   simp only [List.length_drop] at hn2
   have hlen:((s.drop i).take n).length = n:=by simp; omega
   by_cases hm6:m = 6000
   ·rw [if_pos hm6] at hR
    subst hR
    have hb:=beqT (a:=m) (b:=6000) (by omega)
    simp only [RS,RT,RZ,Zu,rA,rB,rC,rD,rE,rF,reduceCtorEq,l355_0,m355_0,t0,t1,t3,t4,g0,pne,hi2,htok,hb,gA_iface,tw333 hK,ifaceK_some ni333,scanE,stopV]
    exact hIg _ _ _ hI (grow _ _)
   ·rw [if_neg hm6] at hR
    have hb:=beqF (a:=m) (b:=6000) (by omega)
    by_cases hbig:(k = 1 ∨ k = 2) ∧ 40 < n
    ·rw [if_pos hbig] at hR
     subst hR
     have hk40:=decT (show (40:Int) < (n:Int) by omega)
     rcases hbig.1 with rfl | rfl
     all_goals (
      simp only [RS,RT,RZ,Zu,rA,rB,rC,rD,rE,rF,reduceCtorEq,l355_0,m355_0,t0,t1,t3,t4,g0,pne,hi2,htok,hb,hlen,hk40,Int.reduceBEq,gA_iface,tw333 hK,ifaceK_some ni333,scanE,stopV]
      exact hIg _ _ _ hI (grow _ _))
    ·rw [if_neg hbig] at hR
     have hI2:=hIg _ _ _ hI (grow (.mem 207 [.int .i64 0,.str [],.int .i64 0] true 0) (.mem 207 [.int .i64 k,.str ((s.drop i).take n),.int .i64 (i:Int)] true 0))
     obtain ⟨⟨h',nx',lg'⟩,y1,y2,y3⟩:=hy a (k,(s.drop i).take n,i) _ (by omega) hI2
     have y4:=y3 nx _ _ _ _ hn0 (Nat.lt_succ_self nx) (by simp only; rw [upd_same])
     obtain ⟨y5,y6⟩:=hIp _ _ y2
     simp only at y4 y5 y6
     simp only [tokA] at y1
     have hw1:=wrapUp (show m < 9223372036854775807 by omega)
     have hw2:IntKind.i64.wrap ((i:Int) + (n:Int)) = ((i + n:Nat):Int):=by rw [wrap64 (by omega) (by omega)]; omega
     have hsk:=skip_c hK hl (show i + n ≤ s.length by omega)
     have hsl:=skipT_le (s:=s) (i:=i + n) (by omega)
     by_cases hk1:k = 1
     ·subst hk1
      have hk40:=decF (show ¬ (40:Int) < (n:Int) by omega)
      simp only [RS,RT,RZ,Zu,rA,rB,rC,rD,rE,rF,reduceCtorEq,l355_0,m355_0,t0,t1,t3,t4,g0,pne,hi2,htok,hb,hlen,hk40,Int.reduceBEq,y1,y4,y5,hw1,hw2,hsk]
      exact ⟨f,Nat.lt_succ_self f,skipT s (i + n),m + 1,_,by rw [List.length_append,ham]; rfl,rfl,rfl,by omega,hsl.2,by omega,y2,hR⟩
     ·have hb1:(k == 1) = false:=by rw [beq_eq_false_iff_ne]; exact hk1
      by_cases hk2:k = 2
      ·subst hk2
       have hk40:=decF (show ¬ (40:Int) < (n:Int) by omega)
       simp only [RS,RT,RZ,Zu,rA,rB,rC,rD,rE,rF,reduceCtorEq,l355_0,m355_0,t0,t1,t3,t4,g0,pne,hi2,htok,hb,hlen,hk40,Int.reduceBEq,y1,y4,y5,hw1,hw2,hsk]
       exact ⟨f,Nat.lt_succ_self f,skipT s (i + n),m + 1,_,by rw [List.length_append,ham]; rfl,rfl,rfl,by omega,hsl.2,by omega,y2,hR⟩
      ·have hb2:(k == 2) = false:=by rw [beq_eq_false_iff_ne]; exact hk2
       simp only [RS,RT,RZ,Zu,rA,rB,rC,rD,rE,rF,reduceCtorEq,l355_0,m355_0,t0,t1,t3,t4,g0,pne,hi2,htok,hb,hlen,hb1,hb2,y1,y4,y5,hw1,hw2,hsk]
       exact ⟨f,Nat.lt_succ_self f,skipT s (i + n),m + 1,_,by rw [List.length_append,ham]; rfl,rfl,rfl,by omega,hsl.2,by omega,y2,hR⟩
 ·rw [if_neg hi2] at hR
  subst hR
  have hi3:i = s.length:=by omega
  subst hi3
  simp only [RS,RT,RZ,Zu,rA,rB,rC,rD,rE,rF,reduceCtorEq,l355_0,m355_0,t0,t1,t3,t4,g0,scanE]
  exact hI
end
end Go.Proofs.L06

namespace Go.Proofs.L06
open Go Go.AE
open Nat renaming reduceLT → rA,reduceLeDiff → rB,reduceEqDiff → rC,reduceMul → rD,reduceAdd → rE,reduceSub → rF
set_option maxHeartbeats 8000000
def scanV:Option (Nat × Int) → AV
 | none => .tuple []
 | some (i,e) => stopV i e
def scanCR:Option (Nat × Int) → CR
 | none => .ret (.tuple [])
 | some (i,e) => .pan (stopV i e)
def scanR (s:List Nat):List Tok × Option (Nat × Int):=scanG s (s.length + 1) (skipT s 0) 0 []
section
variable {Q:Ctx} (hK:K Q)
include hK
theorem toks_c {s:List Nat} (hs:BStr s) (hl:s.length < 1000000000) {L p n0:Nat} {I:List Tok → St → Prop} (hp:p < n0) (hIp:∀ a st,I a st → st.heap p = .mem 9 [.str s] true 0 ∧ n0 ≤ st.next) (hIg:∀ a st st2,I a st → Grow st st2 → I a st2)
  (hy:∀ a t st,a.length < 6000 → I a st → ∃ st',callW Q (.yield L) [tokA t] .normal st = some (.ret (.bool true),st',none) ∧ I (a ++ [t]) st' ∧ ∀ q e cs f z,n0 ≤ q → q < st.next → st.heap q = .mem e cs f z → st'.heap q = .mem e cs f z)
  {st:St} (hI:I [] ⟨st.heap,st.next,[]⟩):∃ st1,callW Q (.fn 355) [.func (.yield L) [] [],.ptr p 0] .normal st = some (scanCR (scanR s).2,leaveSt st [scanV (scanR s).2] st1,none) ∧ I (scanR s).1 st1:=by
 have hs0:Ret Q 356 [.str s,.int .i64 0] (.int .i64 ((skipT s 0:Nat):Int)):=skip_c hK hl (Nat.zero_le _)
 have g0:=(hIp _ _ hI).1
 simp only at g0
 have hsl:=skipT_le (s:=s) (i:=0) (Nat.zero_le _)
 have hB:Post 62 [] none (execY (callW Q) Q false 355 none x355 ⟨argTmps [.func (.yield L) [] [],.ptr p 0],62,[],none⟩ ⟨st.heap,st.next,[]⟩) fun e T st' => (e = (match (scanR s).2 with | none => .norm | some (i,e) => .pan (stopV i e))) ∧ I (scanR s).1 st':=by
  simp only [RS,RT,RZ,Zu,rA,rB,rC,rD,rE,rF,reduceCtorEq,x355,y355,g0,hs0]
  refine post_bind (toks_loop hK hs hl hp hIp hIg hy (R:=scanR s) (s.length + 1) _ _ ⟨skipT s 0,0,[],rfl,?_,?_,?_,?_,by omega,hsl.2,by omega,hI,rfl⟩) ?_
  ·simp only [RS,RT,RZ,Zu,rA,rB,rC,rD,rE,rF,reduceCtorEq]
  ·simp only [RS,RT,RZ,Zu,rA,rB,rC,rD,rE,rF,reduceCtorEq]
  ·simp only [RS,RT,RZ,Zu,rA,rB,rC,rD,rE,rF,reduceCtorEq]; try rfl
  ·simp only [RS,RT,RZ,Zu,rA,rB,rC,rD,rE,rF,reduceCtorEq]
  ·rintro e T ⟨h,nx,lg⟩ ⟨rfl,h2⟩
   cases h3:(scanR s).2 with
   | none => simp only [RS,RT,RZ,Zu,rA,rB,rC,rD,rE,rF,reduceCtorEq,scanE]; exact h2
   | some x => obtain ⟨i,e⟩:=x; simp only [RS,RT,RZ,Zu,rA,rB,rC,rD,rE,rF,reduceCtorEq,scanE]; exact h2
 obtain ⟨e,T,st1,h1,h2,h3⟩:=hB
 refine ⟨st1,?_,h3⟩
 refine callYr (N:=62) (ok355 hK) (hK.nx _ _ _ rfl) rfl ⟨_,h1,?_⟩
 simp only
 subst h2
 cases h4:(scanR s).2 with
 | none =>
  simp only [scanCR,scanV]
  rw [finish_ret (v0:=.tuple []) (v:=.tuple []) (st3:=st1) endOf_norm (by simp only [RS,RT,RZ,Zu,rA,rB,rC,rD,rE,rF,reduceCtorEq,F355]) (frz_noRow rfl fun _ => rfl)]
  rfl
 | some x =>
  obtain ⟨i,e⟩:=x
  simp only [scanCR,scanV]
  rw [finish_pan]
  rfl
end
end Go.Proofs.L06

namespace Go.Proofs.L06
open Go Go.AE
open Nat renaming reduceLT → rA,reduceLeDiff → rB,reduceEqDiff → rC,reduceMul → rD,reduceAdd → rE,reduceSub → rF
set_option maxHeartbeats 8000000
theorem und20:T20.und = .interface #[]:=by kernel_rfl
theorem frz295:C.frz 295 = true:=by kernel_rfl
def toksA (l:List Tok):List AV:=l.map tokA
theorem toksA_len (l:List Tok):(toksA l).length = l.length:=by simp [toksA]
theorem toksA_sized (l:List Tok):sizedH 3 (toksA l) = true:=by cases l <;> rfl
theorem toksA_unt:∀ l:List Tok,untok.untokL (toksA l) = toksA l
 | [] => rfl
 | x :: l => by have:=toksA_unt l; simp only [toksA,List.map_cons,untok.untokL] at this ⊢; rw [this]; rfl
theorem toksA_bl (n:Nat):∀ l:List Tok,belowA.belowL n (toksA l) = true
 | [] => rfl
 | x :: l => by have:=toksA_bl n l; simp only [toksA,List.map_cons,bL_cons] at this ⊢; rw [this]; simp [tokA,belowA,belowA.belowL]
noncomputable def lp295 (T:Nat → AV) (s:LoopState) (d:Nat):AO:=.loop 295 T 18 [12] q295_0.1 q295_0.2 s none d
structure SI (s:List Nat) (T:Nat → AV) (n:Nat) (a:List Tok) (st:St):Prop where
 lst:∃ k,st.heap n = .mem 301 [.slice k (toksA a)] true 0 ∧ AccT st.heap st.next (n + 6) 3 k (toksA a)
 lp:st.heap (n + 5) = lp295 T .ready (n + 4)
 tx:st.heap (n + 3) = .mem 9 [.str s] true 0
 at_:st.heap (n + 1) = .mem 3 [.int .i64 0] true 0
 er:st.heap (n + 2) = .mem 30 [.int .i64 0] true 0
 mrk:st.heap (n + 4) = .dfr
 nx:n + 6 ≤ st.next
 log:∀ q ∈ st.log,q = n ∨ n + 5 ≤ q
 ne:a ≠ [] → n ∈ st.log
theorem fnis {Q:Ctx} (hK:K Q) {f:FuncId} {fi:FI} {x:XC} {mu:Bool} (h:FnOk Q f fi x mu):(Q.fn f).isNone = false:=by rw [h.fn]; rfl
theorem comp_ {Q:Ctx} (hK:K Q) {mu:Bool} {c:RC} {x:XC} (h:compC C mu c = x):compC Q mu c = x:=by
 obtain ⟨X,rfl⟩:=hK.ex
 exact (compC_withX c).trans h
section
variable {Q:Ctx} (hK:K Q)
include hK
theorem yield295 {s:List Nat} {T:Nat → AV} {n:Nat} (h2:T 2 = .ptr n 0) {a:List Tok} {t:Tok} {st:St} (ha:a.length < 6000) (hI:SI s T n a st) :
  ∃ st',callW Q (.yield (n + 5)) [tokA t] .normal st = some (.ret (.bool true),st',none) ∧ SI s T n (a ++ [t]) st' ∧ ∀ q e cs f z,n + 6 ≤ q → q < st.next → st.heap q = .mem e cs f z → st'.heap q = .mem e cs f z:=by
 obtain ⟨⟨k,l1,l2⟩,lp,tx,at_,er,mk,nx2,log,ne⟩:=hI
 obtain ⟨h,nx,lg⟩:=st
 simp only at l1 l2 lp tx at_ er mk nx2 log ne
 have e0:(n = nx) = False:=eq_false (by omega)
 have e5:(n + 5 = nx) = False:=eq_false (by omega)
 have e5':(nx = n + 5) = False:=eq_false (by omega)
 obtain ⟨h',lg',b1,b2,b3,b4,b5⟩:=app_tok (lg:=(n + 5) :: nx :: lg) (e:=207) (ei:=T207) (y:=tokA t) (ys:=[]) (lo:=n + 6) (nx:=nx + 1)
  (h:=upd (upd (upd h nx (.mem 207 [.int .i64 0,.str [],.int .i64 0] true 0)) nx (.mem 207 [.int .i64 t.1,.str t.2.1,.int .i64 (t.2.2:Int)] true 0)) (n + 5) (lp295 T .busy (n + 4))) (k:=k) (es:=toksA a)
  (l2.mono (fun q hq hh => by
   have q1:q ≠ nx:=by omega
   have q2:q ≠ n + 5:=by intro e; subst e; rw [lp] at hh; cases hh
   rw [upd_ne _ _ q2,upd_ne _ _ q1,upd_ne _ _ q1,hh]) (Nat.le_succ nx)) (by omega) rfl (by decide) rfl (toksA_sized a) (by
   rw [toksA_len]
   show (decide ((a.length + 1) * 32 ≤ 1099511627776) && decide (32 ≤ 1048576) && decide (a.length + 1 ≤ 1099511627776)) = true
   rw [decide_eq_true (show (a.length + 1) * 32 ≤ 1099511627776 by omega),decide_eq_true (show a.length + 1 ≤ 1099511627776 by omega)]; rfl)
 have mem:∀ q,q ≠ nx + 1 → q ≠ nx → q ≠ n + 5 → h q ≠ .tok → h' q = h q:=fun q q1 q2 q3 q4 => by
  rw [b3 q q1 (by rw [upd_ne _ _ q3,upd_ne _ _ q2,upd_ne _ _ q2]; exact q4),upd_ne _ _ q3,upd_ne _ _ q2,upd_ne _ _ q2]
 have c0:h' n = .mem 301 [.slice k (toksA a)] true 0:=by rw [mem n (by omega) (by omega) (by omega) (by rw [l1]; simp),l1]
 have c5:h' (n + 5) = lp295 T .busy (n + 4):=by
  rw [b3 (n + 5) (by omega) (by rw [upd_same]; simp [lp295]),upd_same]
 obtain ⟨st',y1,y2⟩:=yield_norm (C:=Q) (l:=n + 5) (self:=295) (tmps:=T) (m:=18) (params:=[12]) (assign:=q295_0.1) (body:=q295_0.2) (d:=n + 4) (pe:=none) (args:=[tokA t]) (st:=⟨h,nx,lg⟩) (mu:=false) (xa:=xa295_0) (xb:=xb295_0)
  (R:=fun st' => st' = ⟨upd (upd h' n (.mem 301 [.slice (.tok (nx + 1) 3) (toksA a ++ [tokA t])] true 0)) (n + 5) (lp295 T .ready (n + 4)),nx + 2,(n + 5) :: n :: lg'⟩) lp rfl (fnis hK (ok295 hK)) (ok295 hK).mu (comp_ hK codea295_0) (comp_ hK codeb295_0) (by kernel_rfl) (by kernel_rfl) (by
   simp only [List.zip_cons_cons,List.zip_nil_right,setParams,Nat.reduceLT,if_true]
   simp only [RS,RT,RZ,Zu,rA,rB,rC,rD,rE,rF,reduceCtorEq,xa295_0,tokA,e5,e5',lp,lp295]
   simp only [lp295,tokA] at b1 c0 c5
   simp only [RS,RT,RZ,Zu,rA,rB,rC,rD,rE,rF,reduceCtorEq,xb295_0,h2,e0,e5,e5',l1,b1,c0,c5,Nat.add_eq_right]
   rfl)
 refine ⟨st',y1,?_,?_⟩
 ·subst y2
  have ee:toksA a ++ [tokA t] = toksA (a ++ [t]):=by simp [toksA]
  rw [ee] at b2 ⊢
  exact {
   lst:=⟨.tok (nx + 1) 3,by simp only; rw [upd_ne _ _ (by omega),upd_same],b2.mono (fun q hq hh => by
    have q1:q ≠ n + 5:=by intro e; subst e; rw [c5] at hh; cases hh
    have q2:q ≠ n:=by intro e; subst e; rw [c0] at hh; cases hh
    simp only; rw [upd_ne _ _ q1,upd_ne _ _ q2,hh]) (Nat.le_refl _)⟩
   lp:=by simp only; rw [upd_same]
   tx:=by simp only; rw [upd_ne _ _ (by omega),upd_ne _ _ (by omega),mem _ (by omega) (by omega) (by omega) (by rw [tx]; simp),tx]
   at_:=by simp only; rw [upd_ne _ _ (by omega),upd_ne _ _ (by omega),mem _ (by omega) (by omega) (by omega) (by rw [at_]; simp),at_]
   er:=by simp only; rw [upd_ne _ _ (by omega),upd_ne _ _ (by omega),mem _ (by omega) (by omega) (by omega) (by rw [er]; simp),er]
   mrk:=by simp only; rw [upd_ne _ _ (by omega),upd_ne _ _ (by omega),mem _ (by omega) (by omega) (by omega) (by rw [mk]; simp),mk]
   nx:=by simp only; omega
   log:=fun q hq => by
    simp only [List.mem_cons] at hq
    rcases hq with rfl | rfl | hq
    ·exact .inr (Nat.le_refl _)
    ·exact .inl rfl
    ·rcases b4 q hq with hq | hq
     ·simp only [List.mem_cons] at hq
      rcases hq with rfl | rfl | hq
      ·exact .inr (Nat.le_refl _)
      ·exact .inr (by omega)
      ·exact log q hq
     ·exact .inr (by omega)
   ne:=fun _ => by simp }
 ·subst y2
  intro q e cs f z q1 q2 q3
  simp only at q2 q3 ⊢
  rw [upd_ne _ _ (by omega),upd_ne _ _ (by omega),mem q (by omega) (by omega) (by omega) (by rw [q3]; simp),q3]
end
end Go.Proofs.L06

namespace Go.Proofs.L06
open Go Go.AE
open Nat renaming reduceLT → rA,reduceLeDiff → rB,reduceEqDiff → rC,reduceMul → rD,reduceAdd → rE,reduceSub → rF
set_option maxHeartbeats 8000000
theorem SI.grow {s:List Nat} {T:Nat → AV} {n:Nat} {a:List Tok} {st st2:St} (h:SI s T n a st) (g:Grow st st2):SI s T n a st2:=by
 obtain ⟨⟨k,l1,l2⟩,lp,tx,at_,er,mk,nx2,log,ne⟩:=h
 have e:∀ q,q ≤ n + 5 → st2.heap q = st.heap q:=fun q hq => g.heap q (by omega)
 exact {
  lst:=⟨k,by rw [e n (by omega)]; exact l1,l2.mono (fun q hq hh => by rw [g.heap q hq]; exact hh) g.next⟩
  lp:=by rw [e _ (Nat.le_refl _)]; exact lp
  tx:=by rw [e _ (by omega)]; exact tx
  at_:=by rw [e _ (by omega)]; exact at_
  er:=by rw [e _ (by omega)]; exact er
  mrk:=by rw [e _ (by omega)]; exact mk
  nx:=Nat.le_trans nx2 g.next
  log:=fun q hq => by
   rcases g.log q hq with h | h
   ·exact log q h
   ·exact .inr (by omega)
  ne:=fun h => g.keep _ (ne h) }
def jmpE:Option (Nat × Int) → EX
 | none => .norm
 | some (i,e) => .pan (stopV i e)
structure SR (n:Nat) (a:List Tok) (st:St):Prop where
 lst:∃ k,st.heap n = .mem 301 [.slice k (toksA a)] true 0 ∧ k.forget = if (toksA a).isEmpty then .nil else .open_
 at_:st.heap (n + 1) = .mem 3 [.int .i64 0] true 0
 er:st.heap (n + 2) = .mem 30 [.int .i64 0] true 0
 mrk:st.heap (n + 4) = .dfr
 nx:n + 5 ≤ st.next
 log:∀ q ∈ st.log,n ≤ q
section
variable {Q:Ctx} (hK:K Q)
include hK
theorem range295 {s:List Nat} (hs:BStr s) (hl:s.length < 1000000000) {T:Nat → AV} {n:Nat} {D:List ADef} {h:Nat → AO} {lg:List Nat} (t2:T 2 = .ptr n 0) (h0:h n = .mem 301 [.slice .nil []] true 0) (h1:h (n + 1) = .mem 3 [.int .i64 0] true 0)
  (h2:h (n + 2) = .mem 30 [.int .i64 0] true 0) (h3:h (n + 3) = .mem 9 [.str s] true 0) (h4:h (n + 4) = .dfr) (hlg:∀ q ∈ lg,n ≤ q) :
  Post 18 D none (rangeLoop (callW Q) 295 355 [] [.ptr (n + 3) 0] [12] q295_0.1 q295_0.2 (n + 4) ⟨T,18,D,none⟩ ⟨h,n + 5,lg⟩) fun e T' st => T' = T ∧ e = jmpE (scanR s).2 ∧ SR n (scanR s).1 st:=by
 have hI:SI s T n [] ⟨upd h (n + 5) (lp295 T .ready (n + 4)),n + 6,[]⟩:={
  lst:=⟨.nil,by simp only; rw [upd_ne _ _ (by omega),h0]; rfl,.inl ⟨rfl,rfl⟩⟩
  lp:=by simp only; rw [upd_same]
  tx:=by simp only; rw [upd_ne _ _ (by omega),h3]
  at_:=by simp only; rw [upd_ne _ _ (by omega),h1]
  er:=by simp only; rw [upd_ne _ _ (by omega),h2]
  mrk:=by simp only; rw [upd_ne _ _ (by omega),h4]
  nx:=Nat.le_refl _
  log:=fun q hq => nomatch hq
  ne:=fun h => absurd rfl h }
 obtain ⟨st1,e1,e2⟩:=toks_c hK hs hl (L:=n + 5) (p:=n + 3) (n0:=n + 6) (I:=SI s T n) (by omega) (fun a st h => ⟨h.tx,h.nx⟩) (fun a st st2 h g => h.grow g) (fun a t st ha hI => yield295 hK t2 ha hI) (st:=⟨upd h (n + 5) (lp295 T .ready (n + 4)),n + 6,lg⟩) hI
 obtain ⟨st2,hst2⟩:∃ st2,st2 = leaveSt ⟨upd h (n + 5) (lp295 T .ready (n + 4)),n + 6,lg⟩ [scanV (scanR s).2] st1:=⟨_,rfl⟩
 rw [← hst2] at e1
 obtain ⟨b1,b2⟩:st2.heap (n + 5) = lp295 T .ready (n + 4) ∧ SR n (scanR s).1 st2:=by
  rcases leave_cases (st0:=⟨upd h (n + 5) (lp295 T .ready (n + 4)),n + 6,lg⟩) (st1:=st1) (vs:=[scanV (scanR s).2]) with ⟨c1,c2⟩ | c1
  ·have hnil:(scanR s).1 = []:=by
    cases ha:(scanR s).1 with
    | nil => rfl
    | cons x l =>
     have h5:=c2 n (e2.ne (by rw [ha]; simp))
     simp only at h5; omega
   rw [hst2,c1,hnil]
   refine ⟨by simp only; rw [upd_same],⟨.nil,by simp only; rw [upd_ne _ _ (by omega),h0]; rfl,rfl⟩,?_,?_,?_,by simp only; omega,hlg⟩
   ·simp only; rw [upd_ne _ _ (by omega),h1]
   ·simp only; rw [upd_ne _ _ (by omega),h2]
   ·simp only; rw [upd_ne _ _ (by omega),h4]
  ·rw [hst2,c1]
   obtain ⟨⟨k,l1,l2⟩,lp,tx,at_,er,mk,nx2,log,ne⟩:=e2
   refine ⟨lp,⟨k,l1,l2.forget⟩,at_,er,mk,by simp only; omega,fun q hq => ?_⟩
   simp only [List.mem_append,List.mem_filter] at hq
   rcases hq with ⟨hq,_⟩ | hq
   ·rcases log q hq with h | h <;> omega
   ·exact hlg q hq
 unfold rangeLoop
 simp only [List.nil_append,List.cons_append,St.push]
 simp only [lp295] at e1 b1
 rw [e1]
 have ne5:∀ q,q < n + 5 → q ≠ n + 5:=fun q h => by omega
 cases hR:(scanR s).2 with
 | none =>
  simp only [scanCR,b1,reduceCtorEq,if_false,jumpEx,Option.map_some,post_some]
  refine ⟨trivial,rfl,?_⟩
  obtain ⟨⟨k,l1,l2⟩,at_,er,mk,nx,log⟩:=b2
  refine ⟨⟨k,by simp only [St.set]; rw [upd_ne _ _ (by omega)]; exact l1,l2⟩,by simp only [St.set]; rw [upd_ne _ _ (by omega)]; exact at_,by simp only [St.set]; rw [upd_ne _ _ (by omega)]; exact er,by simp only [St.set]; rw [upd_ne _ _ (by omega)]; exact mk,nx,fun q hq => ?_⟩
  simp only [St.set,List.mem_cons] at hq
  rcases hq with rfl | hq
  ·omega
  ·exact log q hq
 | some x =>
  obtain ⟨i,e⟩:=x
  simp only [scanCR,post_some]
  exact ⟨trivial,rfl,b2⟩
theorem toks337 {s:List Nat} {st:St}:callW Q (.fn 337) [.str s] .normal st = some (.ret (.func (.func 355) [] [.ptr st.next 0]),⟨upd st.heap st.next (.mem 9 [.str s] true 0),st.next + 1,st.log⟩,none):=by
 have hB:Post 4 [] none (execY (callW Q) Q false 337 none x337 ⟨argTmps [.str s],4,[],none⟩ ⟨st.heap,st.next,[]⟩) fun e T st1 => e = .ret ∧ T 2 = .func (.func 355) [] [.ptr st.next 0] ∧ st1 = ⟨upd st.heap st.next (.mem 9 [.str s] true 0),st.next + 1,[]⟩:=by
  simp only [RS,RT,RZ,Zu,rA,rB,rC,rD,rE,rF,reduceCtorEq,x337]
 obtain ⟨e,T,st1,h1,rfl,h2,rfl⟩:=hB
 refine callYr (N:=4) (ok337 hK) (hK.nx _ _ _ rfl) rfl ⟨_,h1,?_⟩
 simp only
 rw [finish_ret (v0:=.func (.func 355) [] [.ptr st.next 0]) (v:=.func (.func 355) [] [.ptr st.next 0]) (st3:=⟨upd st.heap st.next (.mem 9 [.str s] true 0),st.next + 1,[]⟩) endOf_ret (by simp only [RS,RT,RZ,Zu,rA,rB,rC,rD,rE,rF,reduceCtorEq,F337,h2]) (frz_noRow rfl fun _ => rfl)]
 simp [leaveSt,belowA.belowL,belowA]
theorem rcv336_none {a b c:Nat} {st:St}:callW Q (.fn 336) [.ptr a 0,.ptr b 0,.ptr c 0] (.deferred none) st = some (.ret (.tuple []),st,none):=by
 have hB:Post 21 [] none (execY (callW Q) Q false 336 none x336 ⟨argTmps [.ptr a 0,.ptr b 0,.ptr c 0],21,[],none⟩ ⟨st.heap,st.next,[]⟩) fun e T st1 => e = .norm ∧ st1 = ⟨st.heap,st.next,[]⟩:=by
  simp only [RS,RT,RZ,Zu,rA,rB,rC,rD,rE,rF,reduceCtorEq,x336,y336,kd336_0,k336_0,binA_nn (tw20 hK) und20,ofV,ofCell]
 obtain ⟨e,T,st1,h1,rfl,rfl⟩:=hB
 refine callYd (N:=21) (ok336 hK) rfl ⟨_,h1,?_⟩
 simp only
 rw [finish_ret (v0:=.tuple []) (v:=.tuple []) (st3:=⟨st.heap,st.next,[]⟩) endOf_norm (by simp only [RS,RT,RZ,Zu,rA,rB,rC,rD,rE,rF,reduceCtorEq,F336]) (frz_noRow rfl fun _ => rfl)]
 rfl
theorem rcv336_some {i:Nat} {e:Int} {n:Nat} {st:St} {x:AV} (hn:n + 2 < st.next) (ha:st.heap n = .mem 301 [x] true 0) (hb:st.heap (n + 1) = .mem 3 [.int .i64 0] true 0) (hc:st.heap (n + 2) = .mem 30 [.int .i64 0] true 0) :
  ∃ st2,callW Q (.fn 336) [.ptr n 0,.ptr (n + 1) 0,.ptr (n + 2) 0] (.deferred (some (stopV i e))) st = some (.ret (.tuple []),st2,none) ∧ st2.heap n = .mem 301 [.slice .nil []] true 0 ∧ st2.heap (n + 1) = .mem 3 [.int .i64 (i:Int)] true 0 ∧ st2.heap (n + 2) = .mem 30 [.int .i64 e] true 0 ∧
   ∀ q ∈ st2.log,q ∈ st.log ∨ n ≤ q:=by
 have e0:(n = st.next) = False:=eq_false (by omega)
 have e1:(n + 1 = st.next) = False:=eq_false (by omega)
 have e2:(n + 2 = st.next) = False:=eq_false (by omega)
 have e0':(st.next = n) = False:=eq_false (by omega)
 have e1':(st.next = n + 1) = False:=eq_false (by omega)
 have e2':(st.next = n + 2) = False:=eq_false (by omega)
 have l0:n < st.next:=by omega
 have l1:n + 1 < st.next:=by omega
 have m0:n < st.next + 1:=by omega
 have m1:n + 1 < st.next + 1:=by omega
 have m2:n + 2 < st.next + 1:=by omega
 have m1':n < st.next:=by omega
 have hB:∃ T st1,execY (callW Q) Q false 336 none x336 ⟨argTmps [.ptr n 0,.ptr (n + 1) 0,.ptr (n + 2) 0],21,[],some (stopV i e)⟩ ⟨st.heap,st.next,[]⟩ = some (.norm,⟨T,21,[],none⟩,st1) ∧ st1.heap n = .mem 301 [.slice .nil []] true 0 ∧ st1.heap (n + 1) = .mem 3 [.int .i64 (i:Int)] true 0 ∧ st1.heap (n + 2) = .mem 30 [.int .i64 e] true 0 ∧
   (∀ q ∈ st1.log,n ≤ q) ∧ n ∈ st1.log:=by
  simp only [RS,RT,RZ,Zu,rA,rB,rC,rD,rE,rF,reduceCtorEq,x336,y336,kd336_0,k336_0,stopV,binA_in (tw20 hK) und20,ofV,ofCell,assertA_hit (tw333 hK) ni333,ha,hb,hc,e0,e1,e2,e0',e1',e2',l0,l1,hn,m0,m1,m2,Nat.lt_succ_self,Nat.lt_add_one]
  exact ⟨_,_,rfl,by simp only [RS,RT,RZ,Zu,rA,rB,rC,rD,rE,rF,reduceCtorEq],by simp only [RS,RT,RZ,Zu,rA,rB,rC,rD,rE,rF,reduceCtorEq],by simp only [RS,RT,RZ,Zu,rA,rB,rC,rD,rE,rF,reduceCtorEq],by simp; omega,by simp⟩
 obtain ⟨T,st1,h1,g0,g1,g2,g3,g4⟩:=hB
 refine ⟨leaveSt st [.tuple []] st1,callYd (N:=21) (ok336 hK) rfl ⟨_,h1,?_⟩,?_⟩
 ·simp only
  rw [finish_ret (v0:=.tuple []) (v:=.tuple []) (st3:=st1) endOf_norm (by simp only [RS,RT,RZ,Zu,rA,rB,rC,rD,rE,rF,reduceCtorEq,F336]) (frz_noRow rfl fun _ => rfl)]
  rfl
 ·rcases leave_cases (st0:=st) (st1:=st1) (vs:=[.tuple []]) with ⟨_,c2⟩ | c1
  ·have:=c2 n g4; omega
  ·rw [c1]
   refine ⟨g0,g1,g2,fun q hq => ?_⟩
   simp only [List.mem_append,List.mem_filter] at hq
   rcases hq with ⟨hq,_⟩ | hq
   ·exact .inr (g3 q hq)
   ·exact .inl hq
def skO (l:List Tok):SK:=if (toksA l).isEmpty then .nil else .open_
def scanA (s:List Nat):AV:=if 20000 < s.length then .tuple [.slice .nil [],.int .i64 0,.int .i64 2] else match (scanR s).2 with
 | none => .tuple [.slice (skO (scanR s).1) (toksA (scanR s).1),.int .i64 0,.int .i64 0]
 | some (i,e) => .tuple [.slice .nil [],.int .i64 (i:Int),.int .i64 e]
theorem scan_c {s:List Nat} (hs:BStr s):Ret Q 295 [.str s] (scanA s):=fun st => by
 by_cases hl:20000 < s.length
 ·have hg:=decT (show (20000:Int) < (s.length:Int) by omega)
  refine callY (N:=18) (ok295 hK) (hK.nx _ _ _ rfl) rfl (by rw [scanA,if_pos hl]; rfl) ?_
  rw [scanA,if_pos hl]
  simp only [RS,RT,RZ,Zu,rA,rB,rC,rD,rE,rF,reduceCtorEq,x295,F295,hg,tw301 hK,tw3 hK,tw30 hK,T301,T3,T30]
 ·have hg:=decF (show ¬ (20000:Int) < (s.length:Int) by omega)
  have h37:=fun {s:List Nat} {st:St} => toks337 hK (s:=s) (st:=st)
  have hB:Post 18 [⟨none,st.next + 4,[]⟩,⟨some 336,0,[.ptr st.next 0,.ptr (st.next + 1) 0,.ptr (st.next + 2) 0]⟩] none (execY (callW Q) Q false 295 none x295 ⟨argTmps [.str s],18,[],none⟩ ⟨st.heap,st.next,[]⟩) fun e T st1 =>
    T 2 = .ptr st.next 0 ∧ T 3 = .ptr (st.next + 1) 0 ∧ T 4 = .ptr (st.next + 2) 0 ∧ SR st.next (scanR s).1 st1 ∧ e = (match (scanR s).2 with | none => .ret | some (i,e) => .pan (stopV i e)):=by
   simp only [RS,RT,RZ,Zu,rA,rB,rC,rD,rE,rF,reduceCtorEq,x295,hg,h37,execY_rangeF,rangeK_fn (fnis hK (ok355 hK))]
   refine post_bind (range295 hK hs (by omega) ?_ ?_ ?_ ?_ ?_ ?_ ?_) ?_
   ·simp only [RS,RT,RZ,Zu,rA,rB,rC,rD,rE,rF,reduceCtorEq]
   ·simp only [RS,RT,RZ,Zu,rA,rB,rC,rD,rE,rF,reduceCtorEq]
   ·simp only [RS,RT,RZ,Zu,rA,rB,rC,rD,rE,rF,reduceCtorEq]
   ·simp only [RS,RT,RZ,Zu,rA,rB,rC,rD,rE,rF,reduceCtorEq]
   ·simp only [RS,RT,RZ,Zu,rA,rB,rC,rD,rE,rF,reduceCtorEq]
   ·simp only [RS,RT,RZ,Zu,rA,rB,rC,rD,rE,rF,reduceCtorEq]
   ·simp
   ·rintro e T ⟨h,nx,lg⟩ ⟨rfl,rfl,⟨k,l1,l2⟩,g1,g2,g3,g4,g5⟩
    simp only at l1 g1 g2 g3 g4 g5
    cases hR:(scanR s).2 with
    | none =>
     simp only [RS,RT,RZ,Zu,rA,rB,rC,rD,rE,rF,reduceCtorEq,jmpE,l1,g1,g2]
     refine ⟨⟨k,by simp only [RS,RT,RZ,Zu,rA,rB,rC,rD,rE,rF,reduceCtorEq,l1],l2⟩,by simp only [RS,RT,RZ,Zu,rA,rB,rC,rD,rE,rF,reduceCtorEq],by simp only [RS,RT,RZ,Zu,rA,rB,rC,rD,rE,rF,reduceCtorEq],by simp only [RS,RT,RZ,Zu,rA,rB,rC,rD,rE,rF,reduceCtorEq,g3],by simp only [RS,RT,RZ,Zu,rA,rB,rC,rD,rE,rF,reduceCtorEq,g4],fun q hq => ?_⟩
     simp only [List.mem_cons] at hq
     rcases hq with rfl | rfl | rfl | hq
     ·omega
     ·omega
     ·omega
     ·exact g5 q hq
    | some x =>
     obtain ⟨i,e⟩:=x
     simp only [RS,RT,RZ,Zu,rA,rB,rC,rD,rE,rF,reduceCtorEq,jmpE]
     exact ⟨⟨k,l1,l2⟩,g1,g2,g3,g4,g5⟩
  obtain ⟨e,T,st1,h1,t2,t3,t4,⟨⟨k,l1,l2⟩,g1,g2,g3,g4,g5⟩,he⟩:=hB
  refine callYr (N:=18) (ok295 hK) (hK.nx _ _ _ rfl) rfl ⟨_,h1,?_⟩
  simp only
  rw [scanA,if_neg hl]
  have ne4:st.next ≠ st.next + 4:=by omega
  have hfz:Q.frz 295 = true:=hK.frz_ frz295
  cases hR:(scanR s).2 with
  | none =>
   rw [hR] at he
   simp only at he
   subst he
   have hrs:resultsA Q (st1.set (st.next + 4) .dead) T F295.results = some [.slice k (toksA (scanR s).1),.int .i64 0,.int .i64 0]:=by
    obtain ⟨h',n',lg'⟩:=st1
    simp only at l1 g1 g2
    simp only [RS,RT,RZ,Zu,rA,rB,rC,rD,rE,rF,reduceCtorEq,F295,t2,t3,t4,l1,g1,g2,tw301 hK,tw3 hK,tw30 hK,T301,T3,T30]
   simp only [finishFn,endOf,runDefs,g3,rcv336_none hK,hrs,hfz,if_true,packA,freezeR,freezeVs,freezeV,Option.map_some,untok,untok.untokL,toksA_unt,l2,Option.toList]
   rw [leave_log (fun q hq => by
    simp only [St.set,List.mem_cons] at hq
    rcases hq with rfl | hq
    ·omega
    ·exact g5 q hq) (belowL_one (CleanV.below (by
     have:CleanV (.slice (skO (scanR s).1) (toksA (scanR s).1)):=by
      have hb:=toksA_bl 0 (scanR s).1
      simp only [CleanV,skO]
      split <;> simpa only [belowA] using hb
     simp only [CleanV,skO,bl_tuple,bL_cons,bL_nil,bl_int,Bool.and_true] at this ⊢
     exact this) _))]
   rfl
  | some x =>
   obtain ⟨i,e'⟩:=x
   rw [hR] at he
   simp only at he
   subst he
   obtain ⟨st2,q1,q2,q3,q4,q5⟩:=rcv336_some hK (i:=i) (e:=e') (n:=st.next) (st:=st1.set (st.next + 4) .dead) (x:=.slice k (toksA (scanR s).1)) (by simp only [St.set]; omega) (by simp only [St.set]; rw [upd_ne _ _ ne4]; exact l1) (by simp only [St.set]; rw [upd_ne _ _ (by omega)]; exact g1) (by simp only [St.set]; rw [upd_ne _ _ (by omega)]; exact g2)
   have hrs:resultsA Q st2 T F295.results = some [.slice .nil [],.int .i64 (i:Int),.int .i64 e']:=by
    obtain ⟨h',n',lg'⟩:=st2
    simp only at q2 q3 q4
    simp only [RS,RT,RZ,Zu,rA,rB,rC,rD,rE,rF,reduceCtorEq,F295,t2,t3,t4,q2,q3,q4,tw301 hK,tw3 hK,tw30 hK,T301,T3,T30]
   simp only [finishFn,endOf,runDefs,g3,q1,hrs,hfz,if_true,packA,freezeR,freezeVs,freezeV,Option.map_some,untok,untok.untokL,SK.forget,Option.toList]
   rw [leave_log (fun q hq => by
    rcases q5 q hq with hq | hq
    ·simp only [St.set,List.mem_cons] at hq
     rcases hq with rfl | hq
     ·omega
     ·exact g5 q hq
    ·exact hq) (belowL_one rfl)]
end
end Go.Proofs.L06

namespace Go.Proofs.L06
open Go Go.AE
open Nat renaming reduceLT → rA,reduceLeDiff → rB,reduceEqDiff → rC,reduceMul → rD,reduceAdd → rE,reduceSub → rF
set_option maxHeartbeats 8000000
theorem scanG_err (s:List Nat):∀ f i m acc j e,(scanG s f i m acc).2 = some (j,e) → (e != 0) = true
 | 0,i,m,acc,j,e,h => by cases h
 | f + 1,i,m,acc,j,e,h => by
  rw [scanG] at h
  split at h
  ·split at h
   ·cases h; rfl
   ·split at h
    ·cases h; rfl
    ·split at h
     ·cases h; rfl
     ·exact scanG_err s f _ _ _ _ _ h
  ·cases h
def chk1 (k:Int) (s:List Nat):Bool:=!(decide (20000 < s.length)) && (match (scanR s).2 with
 | some _ => false
 | none => (match (scanR s).1 with | [t] => t.1 == k && t.2.1 == s | _ => false))
section
variable {Q:Ctx} (hK:K Q)
include hK
theorem check_c {k:Int} {s:List Nat} {a:Int} (hs:BStr s):Ret Q 237 [.agg [.int .i64 k,.str s,.int .i64 a]] (.int .i64 (if chk1 k s then 0 else 12)):=fun st => by
 refine callY (N:=38) (ok237 hK) (hK.nx _ _ _ rfl) rfl rfl ?_
 have hsc:=scan_c hK hs
 unfold scanA at hsc
 by_cases hl:20000 < s.length
 ·have hc:chk1 k s = false:=by simp [chk1,hl]
  simp only [if_pos hl] at hsc
  rw [hc]
  simp only [RS,RT,RZ,Zu,rA,rB,rC,rD,rE,rF,reduceCtorEq,x237,y237,kd237_0,F237,hsc,Int.reduceBNe,Bool.false_eq_true,if_false]
 ·simp only [if_neg hl] at hsc
  cases hR:(scanR s).2 with
  | some x =>
   obtain ⟨i,e⟩:=x
   have hc:chk1 k s = false:=by simp [chk1,hR]
   have he:=scanG_err s _ _ _ _ _ _ hR
   simp only [hR] at hsc
   rw [hc]
   simp only [RS,RT,RZ,Zu,rA,rB,rC,rD,rE,rF,reduceCtorEq,x237,y237,kd237_0,F237,hsc,he,Bool.false_eq_true,if_false]
  | none =>
   simp only [hR] at hsc
   cases hT:(scanR s).1 with
   | nil =>
    have hc:chk1 k s = false:=by simp [chk1,hR,hT]
    rw [hc]
    simp only [hT] at hsc
    simp only [RS,RT,RZ,Zu,rA,rB,rC,rD,rE,rF,reduceCtorEq,x237,y237,kd237_0,F237,hsc,toksA_len,Int.reduceBNe,Bool.false_eq_true,if_false]
   | cons t r =>
    simp only [hT] at hsc
    cases r with
    | cons t2 r =>
     have hc:chk1 k s = false:=by simp [chk1,hR,hT]
     have hn:(((t :: t2 :: r).length:Int) != 1) = true:=by rw [bne_iff_ne]; simp only [List.length_cons]; omega
     rw [hc]
     simp only [List.length_cons] at hn
     simp only [RS,RT,RZ,Zu,rA,rB,rC,rD,rE,rF,reduceCtorEq,x237,y237,kd237_0,F237,hsc,toksA_len,hn,Bool.false_eq_true,if_false]
    | nil =>
     have hc:chk1 k s = (t.1 == k && t.2.1 == s):=by simp [chk1,hR,hT,hl]
     have h0:(toksA [t])[0]? = some (tokA t):=rfl
     rw [hc]
     cases e1:t.1 == k with
     | false =>
      have e1':(t.1 != k) = true:=by simp [bne,e1]
      simp only [RS,RT,RZ,Zu,rA,rB,rC,rD,rE,rF,reduceCtorEq,x237,y237,kd237_0,F237,hsc,toksA_len,Int.reduceBNe,h0,tokA,e1',Bool.false_eq_true,if_false]
     | true =>
      have e1':(t.1 != k) = false:=by simp [bne,e1]
      cases e2:t.2.1 == s with
      | false => simp only [RS,RT,RZ,Zu,rA,rB,rC,rD,rE,rF,reduceCtorEq,x237,y237,kd237_0,F237,hsc,toksA_len,Int.reduceBNe,h0,tokA,e1',e2,Bool.false_eq_true,if_false]
      | true => simp only [RS,RT,RZ,Zu,rA,rB,rC,rD,rE,rF,reduceCtorEq,x237,y237,kd237_0,F237,hsc,toksA_len,Int.reduceBNe,h0,tokA,e1',e2,if_true]
theorem is_c {k:Int} {s:List Nat} (hs:BStr s):Ret Q 171 [.str s,.int .i64 k] (.bool (chk1 k s)):=fun st => by
 refine callY (N:=10) (ok171 hK) (hK.nx _ _ _ rfl) rfl rfl ?_
 have hc:=fun a => check_c hK (k:=k) (a:=a) hs
 cases h:chk1 k s with
 | true => simp only [h,if_true] at hc; simp only [RS,RT,RZ,Zu,rA,rB,rC,rD,rE,rF,reduceCtorEq,x171,F171,hc]
 | false => simp only [h,Bool.false_eq_true,if_false] at hc; simp only [RS,RT,RZ,Zu,rA,rB,rC,rD,rE,rF,reduceCtorEq,x171,F171,hc,Int.reduceBEq]
theorem isName_c {s:List Nat} (hs:BStr s):Ret Q 93 [.str s] (.bool (chk1 1 s)):=fun st => by
 refine callY (N:=5) (ok93 hK) (hK.nx _ _ _ rfl) rfl rfl ?_
 simp only [RS,RT,RZ,Zu,rA,rB,rC,rD,rE,rF,reduceCtorEq,x93,F93,is_c hK hs]
theorem isVar_c {s:List Nat} (hs:BStr s):Ret Q 130 [.str s] (.bool (chk1 2 s)):=fun st => by
 refine callY (N:=5) (ok130 hK) (hK.nx _ _ _ rfl) rfl rfl ?_
 simp only [RS,RT,RZ,Zu,rA,rB,rC,rD,rE,rF,reduceCtorEq,x130,F130,is_c hK hs]
theorem tisName_c {s:List Nat} (hs:BStr s):Ret Q 184 [.str s] (.bool (chk1 1 s)):=fun st => by
 refine callY (N:=5) (ok184 hK) (hK.nx _ _ _ rfl) rfl rfl ?_
 simp only [RS,RT,RZ,Zu,rA,rB,rC,rD,rE,rF,reduceCtorEq,x184,F184,isName_c hK hs]
theorem isAny_c {s:List Nat} (hs:BStr s):Ret Q 62 [.str s] (.bool (chk1 1 s || chk1 2 s)):=fun st => by
 refine callY (N:=9) (ok62 hK) (hK.nx _ _ _ rfl) rfl rfl ?_
 cases h:chk1 1 s <;> simp only [RS,RT,RZ,Zu,rA,rB,rC,rD,rE,rF,reduceCtorEq,x62,F62,isName_c hK hs,isVar_c hK hs,h]
end
end Go.Proofs.L06

namespace Go.Proofs.L06
open Go Go.AE
open Nat renaming reduceLT → rA,reduceLeDiff → rB,reduceEqDiff → rC,reduceMul → rD,reduceAdd → rE,reduceSub → rF
set_option maxHeartbeats 8000000
theorem part256:((List.range 256).all fun b => partT (b:Int) == isP b) = true:=by kernel_rfl
theorem part_isP {b:Nat} (h:b < 256):partT (b:Int) = isP b:=by
 have:=List.all_eq_true.1 part256 b (List.mem_range.2 h)
 exact beq_iff_eq.1 this
def rsigns:List (List Nat):=[[45,111],[111,45],[61,62],[60,61],[45,62],[42],[38],[43],[33],[123],[125],[40],[41],[46],[44],[58],[92]]
def rtok (s:List Nat):Int × Nat:=match tokF s with | some x => x | none => (0,0)
def signF (s:List Nat):List (List Nat) → Int × Nat
 | [] => (0,0)
 | p :: r => if pre2 s p then (3,p.length) else signF s r
section
variable {Q:Ctx} (hK:K Q)
include hK
theorem blank_c {b:Int}:Ret Q 238 [.int .u8 b] (.bool (b == 32 || (b == 9 || b == 10))):=fun st => by
 refine callY (N:=13) (ok238 hK) (hK.nx _ _ _ rfl) rfl rfl ?_
 cases e1:b == 32 <;> cases e2:b == 9 <;> simp only [RS,RT,RZ,Zu,rA,rB,rC,rD,rE,rF,reduceCtorEq,x238,F238,e1,e2]
theorem rsigns_c:Ret Q 303 [] (.slice .exact (strsA rsigns)):=fun st => by
 refine callY (N:=2) (ok303 hK) (hK.nx _ _ _ rfl) rfl rfl ?_
 simp only [RS,RT,RZ,Zu,rA,rB,rC,rD,rE,rF,reduceCtorEq,x303,F303]
 rfl
theorem rrun_c {s:List Nat} (hs:BStr s) (hl:s.length < 1000000000) {n:Nat} (hn:n ≤ s.length):Ret Q 297 [.str s,.int .i64 (n:Int)] (.int .i64 ((n + runL (s.drop n):Nat):Int)):=fun st => by
 refine callY (N:=18) (ok297 hK) (hK.nx _ _ _ rfl) rfl rfl ?_
 simp only [RS,RT,RZ,Zu,rA,rB,rC,rD,rE,rF,reduceCtorEq,x297,y297,F297]
 refine post_bind (post_loop (I:=fun m T st1 => ∃ i:Nat,m = s.length - i ∧ i ≤ s.length ∧ T 0 = .str s ∧ T 1 = .int .i64 (i:Int) ∧ st1 = ⟨st.heap,st.next,[]⟩ ∧ i + runL (s.drop i) = n + runL (s.drop n))
  (Q:=fun e T st1 => st1 = ⟨st.heap,st.next,[]⟩ ∧ e = .exit 0 ∧ T 1 = .int .i64 ((n + runL (s.drop n):Nat):Int)) ?_ (s.length - n) _ _ ⟨n,rfl,hn,?_⟩) ?_
 ·rintro m T _ ⟨i,rfl,hi,t0,t1,rfl,hR⟩
  by_cases hi2:i < s.length
  ·obtain ⟨b,hb,hd⟩:=drop_get hi2
   have hb2:=hs.at hb
   have hpc:=part_c hK (b:=(b:Int))
   rw [part_isP hb2] at hpc
   rw [hd,runL] at hR
   cases hp:isP b with
   | true =>
    rw [hp,if_pos rfl] at hR
    rw [hp] at hpc
    simp only [RS,RT,RZ,Zu,rA,rB,rC,rD,rE,rF,reduceCtorEq,l297_0,m297_0,t0,t1,hi2,hb,hpc,wrapUp (show i < 9223372036854775807 by omega)]
    exact ⟨s.length - (i + 1),by omega,i + 1,rfl,by omega,rfl,by omega⟩
   | false =>
    rw [hp,if_neg (by decide),Nat.add_zero] at hR
    rw [hp] at hpc
    simp only [RS,RT,RZ,Zu,rA,rB,rC,rD,rE,rF,reduceCtorEq,l297_0,m297_0,t0,t1,hi2,hb,hpc,← hR]
  ·have hi3:i = s.length:=by omega
   subst hi3
   rw [List.drop_length,runL,Nat.add_zero] at hR
   simp only [RS,RT,RZ,Zu,rA,rB,rC,rD,rE,rF,reduceCtorEq,l297_0,m297_0,t0,t1,← hR]
 ·simp only [RS,RT,RZ,Zu,rA,rB,rC,rD,rE,rF,reduceCtorEq]
 ·rintro e T _ ⟨rfl,rfl,t1⟩
  simp only [RS,RT,RZ,Zu,rA,rB,rC,rD,rE,rF,reduceCtorEq,t1]
theorem isAt_c {s p:List Nat} {i:Nat} (hl:s.length < 1000000000) (hp:p.length < 1000) (hi:i ≤ s.length):Ret Q 299 [.str s,.int .i64 (i:Int),.str p] (.bool (pre2 (s.drop i) p)):=fun st => by
 refine callY (N:=25) (ok299 hK) (hK.nx _ _ _ rfl) rfl rfl ?_
 have hw:IntKind.i64.wrap ((i:Int) + (p.length:Int)) = ((i + p.length:Nat):Int):=by rw [wrap64 (by omega) (by omega)]; omega
 have hlen:(s.drop i).length = s.length - i:=by simp
 by_cases h:i + p.length ≤ s.length
 ·have e:pre2 (s.drop i) p = ((s.drop i).take p.length == p):=by rw [pre2,hlen,decT (by omega),Bool.true_and]
  rw [e]
  simp only [RS,RT,RZ,Zu,rA,rB,rC,rD,rE,rF,reduceCtorEq,x299,F299,hw,h,sliceA_str (tw9 hK)]
 ·have e:pre2 (s.drop i) p = false:=by rw [pre2,hlen,decF (by omega),Bool.false_and]
  rw [e]
  simp only [RS,RT,RZ,Zu,rA,rB,rC,rD,rE,rF,reduceCtorEq,x299,F299,hw,h,sliceA_str (tw9 hK)]
theorem rindex_c {l:List (List Nat)} {s:List Nat} {k:SK} (hl:l.length < 1000000000):Ret Q 300 [.slice k (strsA l),.str s] (.int .i64 (idxF s 0 l)):=fun st => by
 refine callY (N:=19) (ok300 hK) (hK.nx _ _ _ rfl) rfl rfl ?_
 simp only [RS,RT,RZ,Zu,rA,rB,rC,rD,rE,rF,reduceCtorEq,x300,y300,F300]
 refine post_bind (post_for (I:=fun i T st1 => T 0 = .slice k (strsA l) ∧ T 1 = .str s ∧ T 5 = .int .i64 (i:Int) ∧ st1 = ⟨st.heap,st.next,[]⟩ ∧ idxF s i (l.drop i) = idxF s 0 l)
  (Q:=fun e T st1 => st1 = ⟨st.heap,st.next,[]⟩ ∧ ((e = .ret ∧ T 4 = .int .i64 (idxF s 0 l)) ∨ (e = .exit 0 ∧ idxF s 0 l = -1))) l.length ?_ ?_ (Nat.zero_le _) ?_) ?_
 ·rintro i T _ hi ⟨h0,h1,h5,rfl,hr⟩
  obtain ⟨x,hx,hd⟩:=drop_get hi
  rw [hd,idxF] at hr
  cases hb:s == x with
  | true =>
   have hb':(x == s) = true:=by rw [beq_iff_eq] at hb ⊢; exact hb.symm
   rw [hb,if_pos rfl] at hr
   simp only [RS,RT,RZ,Zu,rA,rB,rC,rD,rE,rF,reduceCtorEq,l300_0,m300_0,h0,h1,h5,hi,strsA_get hx,strsA_len,hb',hr.symm]
  | false =>
   have hb':(x == s) = false:=by rw [beq_eq_false_iff_ne] at hb ⊢; exact fun e => hb e.symm
   rw [hb,if_neg (by decide)] at hr
   simp only [RS,RT,RZ,Zu,rA,rB,rC,rD,rE,rF,reduceCtorEq,l300_0,m300_0,h0,h1,h5,hi,strsA_get hx,strsA_len,hb',hr,wrapUp (show i < 9223372036854775807 by omega)]
 ·rintro T _ ⟨h0,h1,h5,rfl,hr⟩
  rw [List.drop_length,idxF] at hr
  simp only [RS,RT,RZ,Zu,rA,rB,rC,rD,rE,rF,reduceCtorEq,l300_0,m300_0,h0,h1,h5,strsA_len,hr.symm]
 ·(simp only [RS,RT,RZ,Zu,rA,rB,rC,rD,rE,rF,reduceCtorEq]) <;> first | rfl | exact ⟨rfl,rfl⟩
 ·rintro e T _ ⟨rfl,⟨rfl,h4⟩ | ⟨rfl,h4⟩⟩
  ·simp only [RS,RT,RZ,Zu,rA,rB,rC,rD,rE,rF,reduceCtorEq,h4]
  ·simp only [RS,RT,RZ,Zu,rA,rB,rC,rD,rE,rF,reduceCtorEq,h4]
end
end Go.Proofs.L06

namespace Go.Proofs.L06
open Go Go.AE
open Nat renaming reduceLT → rA,reduceLeDiff → rB,reduceEqDiff → rC,reduceMul → rD,reduceAdd → rE,reduceSub → rF
set_option maxHeartbeats 8000000
def sgl:List (List Nat):=[[42],[38],[43],[33],[123],[125],[40],[41],[46],[44],[58],[92]]
theorem sgl256:((List.range 256).all fun b => signF [b] sgl == (if 0 ≤ idxB signs (b:Int) then ((3:Int),1) else (0,0))) = true:=by kernel_rfl
theorem pre2_one {b:Nat} {t:List Nat} {c:Nat}:pre2 (b :: t) [c] = pre2 [b] [c]:=by simp [pre2]
theorem signF_one {b:Nat} {t:List Nat}:∀ {l:List (List Nat)},(∀ p ∈ l,p.length = 1) → signF (b :: t) l = signF [b] l
 | [],_ => rfl
 | p :: l,h => by
  obtain ⟨c,rfl⟩:=List.length_eq_one_iff.1 (h p (by simp))
  rw [signF,signF,pre2_one,signF_one fun q hq => h q (by simp [hq])]
theorem signs_rtok {s:List Nat} (hs:BStr s) {b:Nat} (hb:s.getD 0 0 = b) (h0:0 < s.length) (h1:smallT b = false) (h2:capT b = false) (h3:pre2 s [45,111] = false):signF s (rsigns.drop 2) = rtok s:=by
 obtain ⟨b',t,rfl⟩:∃ b t,s = b :: t:=by cases s with | nil => simp at h0 | cons b t => exact ⟨b,t,rfl⟩
 simp only [List.getD_cons_zero] at hb
 subst hb
 have hb2:b' < 256:=hs b' (by simp)
 have e:rsigns.drop 2 = [61,62] :: [60,61] :: [45,62] :: sgl:=rfl
 have h4:=beq_iff_eq.1 (List.all_eq_true.1 sgl256 b' (List.mem_range.2 hb2))
 unfold rtok tokF
 simp only [List.getD_cons_zero,h1,h2,h3,Bool.false_eq_true,if_false,e,signF]
 rw [signF_one (l:=sgl) (by decide),h4]
 cases pre2 (b' :: t) [61,62] <;> cases pre2 (b' :: t) [60,61] <;> cases pre2 (b' :: t) [45,62] <;> simp <;> split <;> rfl
section
variable {Q:Ctx} (hK:K Q)
include hK
theorem rtoken_c {s:List Nat} (hs:BStr s) (hl:s.length < 1000000000) (h0:0 < s.length):Ret Q 239 [.str s,.int .i64 0] (.tuple [.int .i64 (rtok s).1,.int .i64 ((rtok s).2:Int)]):=fun st => by
 refine callY (N:=104) (ok239 hK) (hK.nx _ _ _ rfl) rfl rfl ?_
 obtain ⟨b,hb⟩:∃ b,s[0]? = some b:=⟨_,List.getElem?_eq_getElem h0⟩
 have hb0:s.getD 0 0 = b:=by rw [List.getD_eq_getElem?_getD,hb]; rfl
 have hrn:runL s ≤ s.length:=runL_le s
 have hrun0:Ret Q 297 [.str s,.int .i64 0] (.int .i64 ((runL s:Nat):Int)):=by
  have:=rrun_c hK hs hl (n:=0) (Nat.zero_le _); rw [Nat.zero_add] at this; exact this
 have hat0:∀ p:List Nat,p.length < 1000 → Ret Q 299 [.str s,.int .i64 0,.str p] (.bool (pre2 s p)):=fun p hp => isAt_c hK hl hp (i:=0) (Nat.zero_le _)
 cases hcap:capT b with
 | true =>
  have hsm:smallT b = false:=by
   simp only [capT,smallT,Bool.and_eq_true,decide_eq_true_eq,Bool.and_eq_false_iff,decide_eq_false_iff_not] at hcap ⊢; omega
  have hT:rtok s = (2,runL s):=by unfold rtok tokF; rw [hb0,hsm,hcap]; rfl
  rw [hT]
  simp only [RS,RT,RZ,Zu,rA,rB,rC,rD,rE,rF,reduceCtorEq,x239,y239,kd239_0,k239_0,kd239_1,F239,hb,rcap_c hK,hcap,hrun0]
 | false =>
  cases hsm:smallT b with
  | true =>
   have hname:(¬ (runL s + 1 < s.length) ∧ nameLen s = runL s) ∨ (∃ c:Nat,runL s + 1 < s.length ∧ s[runL s]? = some c ∧ ((c:Int) == 64) = false ∧ nameLen s = runL s) ∨
     (∃ (c d:Nat),runL s + 1 < s.length ∧ s[runL s]? = some c ∧ ((c:Int) == 64) = true ∧ s[runL s + 1]? = some d ∧ smallT d = false ∧ nameLen s = runL s) ∨
     (∃ (c d:Nat),runL s + 1 < s.length ∧ s[runL s]? = some c ∧ ((c:Int) == 64) = true ∧ s[runL s + 1]? = some d ∧ smallT d = true ∧ nameLen s = runL s + 1 + runL (s.drop (runL s + 1))):=by
    by_cases h1:runL s + 1 < s.length
    ·obtain ⟨c,hc⟩:∃ c,s[runL s]? = some c:=⟨_,List.getElem?_eq_getElem (show runL s < s.length by omega)⟩
     obtain ⟨d,hd⟩:∃ d,s[runL s + 1]? = some d:=⟨_,List.getElem?_eq_getElem h1⟩
     have ec:s.getD (runL s) 0 = c:=by rw [List.getD_eq_getElem?_getD,hc]; rfl
     have ed:s.getD (runL s + 1) 0 = d:=by rw [List.getD_eq_getElem?_getD,hd]; rfl
     unfold nameLen
     rw [ec,ed]
     by_cases h2:c = 64
     ·cases h3:smallT d with
      | true => exact .inr (.inr (.inr ⟨c,d,h1,hc,beqT (by omega),hd,h3,if_pos ⟨h1,h2,rfl⟩⟩))
      | false => exact .inr (.inr (.inl ⟨c,d,h1,hc,beqT (by omega),hd,h3,if_neg (by simp)⟩))
     ·exact .inr (.inl ⟨c,h1,hc,beqF (by omega),if_neg (by simp [h2])⟩)
    ·exact .inl ⟨h1,by unfold nameLen; rw [if_neg (by simp [h1])]⟩
   have hnl:=nameLen_le s
   have htail:∀ N,nameLen s = N → ((s.take N == [111]) = true ∧ pre2 (s.drop N) [45] = true ∧ N = 1 ∧ rtok s = (3,2)) ∨
     (((s.take N == [111]) = false ∨ ((s.take N == [111]) = true ∧ pre2 (s.drop N) [45] = false)) ∧
      ((kwords.contains (s.take N) = true ∧ rtok s = (4,N)) ∨ (kwords.contains (s.take N) = false ∧ rtok s = (1,N)))):=by
    intro N hN
    have key:∀ h:¬ ((s.take N == [111]) = true ∧ 1 < s.length ∧ s.getD 1 0 = 45),(kwords.contains (s.take N) = true ∧ rtok s = (4,N)) ∨ (kwords.contains (s.take N) = false ∧ rtok s = (1,N)):=fun h => by
     unfold rtok tokF
     rw [hb0,hsm,if_pos rfl,hN,if_neg h]
     cases hk:kwords.contains (s.take N) with
     | true => exact .inl ⟨rfl,by rw [if_pos rfl]⟩
     | false => exact .inr ⟨rfl,by rw [if_neg (by decide)]⟩
    cases g1:s.take N == [111] with
    | false => exact .inr ⟨.inl rfl,key (by rw [g1]; simp)⟩
    | true =>
     have hN1:N = 1:=by
      have:=congrArg List.length (beq_iff_eq.1 g1)
      simp only [List.length_take,List.length_cons,List.length_nil] at this
      omega
     subst hN1
     by_cases g2:1 < s.length ∧ s.getD 1 0 = 45
     ·refine .inl ⟨rfl,?_,rfl,?_⟩
      ·obtain ⟨g2,g3⟩:=g2
       obtain ⟨c,hc,hd⟩:=drop_get g2
       have ec:s.getD 1 0 = c:=by rw [List.getD_eq_getElem?_getD,hc]; rfl
       rw [hd,show c = 45 by omega]; simp [pre2]
      ·unfold rtok tokF
       rw [hb0,hsm,if_pos rfl,hN,if_pos ⟨g1,g2⟩]
     ·refine .inr ⟨.inr ⟨rfl,?_⟩,key (by simp [g1]; simpa using g2)⟩
      by_cases g3:1 < s.length
      ·obtain ⟨c,hc,hd⟩:=drop_get g3
       have ec:s.getD 1 0 = c:=by rw [List.getD_eq_getElem?_getD,hc]; rfl
       rw [hd]
       have:¬ c = 45:=fun e => g2 ⟨g3,by omega⟩
       simp [pre2,this]
      ·rw [List.drop_of_length_le (by omega)]; rfl
   have hkw:=fun (N:Nat) => rindex_c hK (l:=kwords) (s:=s.take N) (k:=.exact) (by decide)
   have hkm:=fun (N:Nat) => idxF_mem (s.take N) 0 kwords
   have fin:∀ N,nameLen s = N → N ≤ s.length:=fun N h => h ▸ hnl
   have hw:=wrapUp (show runL s < 9223372036854775807 by omega)
   have hat:∀ N,N ≤ s.length → Ret Q 299 [.str s,.int .i64 (N:Int),.str [45]] (.bool (pre2 (s.drop N) [45])):=fun N hN => isAt_c hK hl (by decide) hN
   have go:∀ (N:Nat) (T:Nat → AV) (st1:St),nameLen s = N → T 0 = .str s → T 1 = .int .i64 0 → T 6 = .int .i64 (N:Int) → True:=fun _ _ _ _ _ _ _ => trivial
   rcases hname with ⟨h1,hN⟩ | ⟨c,h1,hc,h2,hN⟩ | ⟨c,d,h1,hc,h2,hd,h3,hN⟩ | ⟨c,d,h1,hc,h2,hd,h3,hN⟩
   ·have hNle:=fin _ hN
    have hatN:=hat _ hNle
    simp only [RS,RT,RZ,Zu,rA,rB,rC,rD,rE,rF,reduceCtorEq,x239,y239,kd239_0,k239_0,kd239_1,F239,hb,rcap_c hK,hcap,rsmall_c hK,hsm,hrun0,hw,h1,sliceA_str (tw9 hK),hNle]
    rcases htail _ hN with ⟨g1,g2,hN1,hT⟩ | ⟨g1 | ⟨g1,g2⟩,⟨hk,hT⟩ | ⟨hk,hT⟩⟩
    ·rw [hT]; simp only [RS,RT,RZ,Zu,rA,rB,rC,rD,rE,rF,reduceCtorEq,kd239_0,k239_0,kd239_1,F239,g1,hatN,g2,hw]; rw [hN1]; rfl
    all_goals (rw [hT]; first | simp only [RS,RT,RZ,Zu,rA,rB,rC,rD,rE,rF,reduceCtorEq,kd239_0,k239_0,kd239_1,F239,g1,hatN,g2,hw,rwords_c hK,hkw,hkm,hk,sliceA_str (tw9 hK),hNle] | simp only [RS,RT,RZ,Zu,rA,rB,rC,rD,rE,rF,reduceCtorEq,kd239_0,k239_0,kd239_1,F239,g1,hw,rwords_c hK,hkw,hkm,hk,sliceA_str (tw9 hK),hNle])
   ·have hNle:=fin _ hN
    have hatN:=hat _ hNle
    simp only [RS,RT,RZ,Zu,rA,rB,rC,rD,rE,rF,reduceCtorEq,x239,y239,kd239_0,k239_0,kd239_1,F239,hb,rcap_c hK,hcap,rsmall_c hK,hsm,hrun0,hw,h1,hc,h2,sliceA_str (tw9 hK),hNle]
    rcases htail _ hN with ⟨g1,g2,hN1,hT⟩ | ⟨g1 | ⟨g1,g2⟩,⟨hk,hT⟩ | ⟨hk,hT⟩⟩
    ·rw [hT]; simp only [RS,RT,RZ,Zu,rA,rB,rC,rD,rE,rF,reduceCtorEq,kd239_0,k239_0,kd239_1,F239,g1,hatN,g2,hw]; rw [hN1]; rfl
    all_goals (rw [hT]; first | simp only [RS,RT,RZ,Zu,rA,rB,rC,rD,rE,rF,reduceCtorEq,kd239_0,k239_0,kd239_1,F239,g1,hatN,g2,hw,rwords_c hK,hkw,hkm,hk,sliceA_str (tw9 hK),hNle] | simp only [RS,RT,RZ,Zu,rA,rB,rC,rD,rE,rF,reduceCtorEq,kd239_0,k239_0,kd239_1,F239,g1,hw,rwords_c hK,hkw,hkm,hk,sliceA_str (tw9 hK),hNle])
   ·have hNle:=fin _ hN
    have hatN:=hat _ hNle
    simp only [RS,RT,RZ,Zu,rA,rB,rC,rD,rE,rF,reduceCtorEq,x239,y239,kd239_0,k239_0,kd239_1,F239,hb,rcap_c hK,hcap,rsmall_c hK,hsm,hrun0,hw,h1,hc,h2,hd,h3,sliceA_str (tw9 hK),hNle]
    rcases htail _ hN with ⟨g1,g2,hN1,hT⟩ | ⟨g1 | ⟨g1,g2⟩,⟨hk,hT⟩ | ⟨hk,hT⟩⟩
    ·rw [hT]; simp only [RS,RT,RZ,Zu,rA,rB,rC,rD,rE,rF,reduceCtorEq,kd239_0,k239_0,kd239_1,F239,g1,hatN,g2,hw]; rw [hN1]; rfl
    all_goals (rw [hT]; first | simp only [RS,RT,RZ,Zu,rA,rB,rC,rD,rE,rF,reduceCtorEq,kd239_0,k239_0,kd239_1,F239,g1,hatN,g2,hw,rwords_c hK,hkw,hkm,hk,sliceA_str (tw9 hK),hNle] | simp only [RS,RT,RZ,Zu,rA,rB,rC,rD,rE,rF,reduceCtorEq,kd239_0,k239_0,kd239_1,F239,g1,hw,rwords_c hK,hkw,hkm,hk,sliceA_str (tw9 hK),hNle])
   ·obtain ⟨m,hm⟩:∃ m,runL s + 1 + runL (s.drop (runL s + 1)) = m:=⟨_,rfl⟩
    have hr1:=rrun_c hK hs hl (n:=runL s + 1) (by omega)
    rw [hm] at hN hr1
    have hNle:=fin _ hN
    have hatN:=hat _ hNle
    have hwm:=wrapUp (show m < 9223372036854775807 by omega)
    simp only [RS,RT,RZ,Zu,rA,rB,rC,rD,rE,rF,reduceCtorEq,x239,y239,kd239_0,k239_0,kd239_1,F239,hb,rcap_c hK,hcap,rsmall_c hK,hsm,hrun0,hw,h1,hc,h2,hd,h3,hr1,sliceA_str (tw9 hK),hNle]
    rcases htail _ hN with ⟨g1,g2,hN1,hT⟩ | ⟨g1 | ⟨g1,g2⟩,⟨hk,hT⟩ | ⟨hk,hT⟩⟩
    ·rw [hT]; simp only [RS,RT,RZ,Zu,rA,rB,rC,rD,rE,rF,reduceCtorEq,kd239_0,k239_0,kd239_1,F239,g1,hatN,g2,hwm]; rw [hN1]; rfl
    all_goals (rw [hT]; first | simp only [RS,RT,RZ,Zu,rA,rB,rC,rD,rE,rF,reduceCtorEq,kd239_0,k239_0,kd239_1,F239,g1,hatN,g2,hwm,rwords_c hK,hkw,hkm,hk,sliceA_str (tw9 hK),hNle] | simp only [RS,RT,RZ,Zu,rA,rB,rC,rD,rE,rF,reduceCtorEq,kd239_0,k239_0,kd239_1,F239,g1,hwm,rwords_c hK,hkw,hkm,hk,sliceA_str (tw9 hK),hNle])
  | false =>
   have hato:=hat0 [45,111] (by decide)
   cases e4:pre2 s [45,111] with
   | true =>
    have h2:2 ≤ s.length:=pre2_len e4
    have npp:(pre2 s [45,62] || (pre2 s [61,62] || pre2 s [60,61])) = false:=by
     obtain ⟨b',t,rfl⟩:∃ b t,s = b :: t:=by cases s with | nil => simp at h0 | cons b t => exact ⟨b,t,rfl⟩
     obtain ⟨c',t,rfl⟩:∃ b u,t = b :: u:=by cases t with | nil => simp at h2 | cons b t => exact ⟨b,t,rfl⟩
     simp [pre2] at e4 ⊢
     omega
    have w2:IntKind.i64.wrap ((0:Int) + 2) = 2:=by decide
    by_cases h3:s.length = 2
    ·have hT:rtok s = (3,2):=by unfold rtok tokF; simp only [hb0,hsm,hcap,npp,e4,Bool.false_eq_true,if_false,if_true]; rw [if_pos (Or.inl h3)]
     have hlt:=decF (show ¬ (2:Int) < (s.length:Int) by omega)
     rw [hT]
     simp only [RS,RT,RZ,Zu,rA,rB,rC,rD,rE,rF,reduceCtorEq,x239,y239,kd239_0,k239_0,kd239_1,F239,hb,rcap_c hK,hcap,rsmall_c hK,hsm,hato,e4,w2,hlt]
    ·obtain ⟨c,hc⟩:∃ c,s[2]? = some c:=⟨_,List.getElem?_eq_getElem (show 2 < s.length by omega)⟩
     have ec:s.getD 2 0 = c:=by rw [List.getD_eq_getElem?_getD,hc]; rfl
     have hlt:=decT (show (2:Int) < (s.length:Int) by omega)
     have hpc:=part_c hK (b:=(c:Int))
     rw [part_isP (hs.at hc)] at hpc
     cases h5:isP c with
     | true =>
      rw [h5] at hpc
      have hT:rtok s = (0,0):=by unfold rtok tokF; simp only [hb0,hsm,hcap,npp,e4,Bool.false_eq_true,if_false,if_true]; rw [if_neg (show ¬ (s.length = 2 ∨ isP (s.getD 2 0) = false) by rw [ec,h5]; simp [h3])]
      rw [hT]
      simp only [RS,RT,RZ,Zu,rA,rB,rC,rD,rE,rF,reduceCtorEq,x239,y239,kd239_0,k239_0,kd239_1,F239,hb,rcap_c hK,hcap,rsmall_c hK,hsm,hato,e4,w2,hlt,hc,hpc]
     | false =>
      rw [h5] at hpc
      have hT:rtok s = (3,2):=by unfold rtok tokF; simp only [hb0,hsm,hcap,npp,e4,Bool.false_eq_true,if_false,if_true]; rw [if_pos (Or.inr (by rw [ec]; exact h5))]
      rw [hT]
      simp only [RS,RT,RZ,Zu,rA,rB,rC,rD,rE,rF,reduceCtorEq,x239,y239,kd239_0,k239_0,kd239_1,F239,hb,rcap_c hK,hcap,rsmall_c hK,hsm,hato,e4,w2,hlt,hc,hpc]
   | false =>
    have hR:=signs_rtok hs hb0 h0 hsm hcap e4
    simp only [RS,RT,RZ,Zu,rA,rB,rC,rD,rE,rF,reduceCtorEq,x239,y239,kd239_0,k239_0,kd239_1,F239,hb,rcap_c hK,hcap,rsmall_c hK,hsm,hato,e4,rsigns_c hK]
    refine post_bind (post_loop (I:=fun m T st1 => ∃ i:Nat,m = 17 - i ∧ i ≤ 17 ∧ T 0 = .str s ∧ T 1 = .int .i64 0 ∧ T 7 = .slice .exact (strsA rsigns) ∧ T 8 = .int .i64 (i:Int) ∧ st1 = ⟨st.heap,st.next,[]⟩ ∧ signF s (rsigns.drop i) = rtok s)
     (Q:=fun e T st1 => st1 = ⟨st.heap,st.next,[]⟩ ∧ ((e = .ret ∧ T 4 = .int .i64 (rtok s).1 ∧ T 5 = .int .i64 ((rtok s).2:Int)) ∨ (e = .exit 0 ∧ rtok s = (0,0)))) ?_ 15 _ _ ⟨2,rfl,by omega,?_,?_,?_,?_,rfl,hR⟩) ?_
    ·rintro m T _ ⟨i,rfl,hi,t0,t1,t7,t8,rfl,hS⟩
     have h17:rsigns.length = 17:=rfl
     by_cases hi2:i < 17
     ·obtain ⟨p,hp,hd⟩:=drop_get (l:=rsigns) (i:=i) (by omega)
      rw [hd,signF] at hS
      have hpm:p ∈ rsigns:=List.mem_of_getElem? hp
      have hpl:p.length < 1000:=by
       have:∀ p ∈ rsigns,p.length < 1000:=by decide
       exact this p hpm
      have hpat:=hat0 p hpl
      have hlt:=decT (show (i:Int) < (17:Int) by omega)
      have h17':((rsigns.length:Nat):Int) = 17:=rfl
      cases hb3:pre2 s p with
      | true =>
       rw [hb3,if_pos rfl] at hS
       have hw0:IntKind.i64.wrap ((0:Int) + (p.length:Int)) = (p.length:Int):=by rw [wrap64 (by omega) (by omega)]; omega
       simp only [RS,RT,RZ,Zu,rA,rB,rC,rD,rE,rF,reduceCtorEq,l239_0,m239_0,kd239_0,k239_0,kd239_1,t0,t1,t7,t8,strsA_len,h17',hlt,strsA_get hp,hpat,hb3,hw0,hS.symm]
      | false =>
       rw [hb3,if_neg (by decide)] at hS
       simp only [RS,RT,RZ,Zu,rA,rB,rC,rD,rE,rF,reduceCtorEq,l239_0,m239_0,kd239_0,k239_0,kd239_1,t0,t1,t7,t8,strsA_len,h17',hlt,strsA_get hp,hpat,hb3,wrapUp (show i < 9223372036854775807 by omega)]
       exact ⟨17 - (i + 1),by omega,i + 1,rfl,by omega,rfl,hS⟩
     ·have hi3:i = 17:=by omega
      subst hi3
      have h17':((rsigns.length:Nat):Int) = 17:=rfl
      have hlt:=decF (show ¬ ((17:Nat):Int) < (17:Int) by omega)
      simp only [RS,RT,RZ,Zu,rA,rB,rC,rD,rE,rF,reduceCtorEq,l239_0,m239_0,kd239_0,k239_0,kd239_1,t0,t1,t7,t8,strsA_len,h17',hlt]
      exact hS.symm
    ·simp only [RS,RT,RZ,Zu,rA,rB,rC,rD,rE,rF,reduceCtorEq]
    ·simp only [RS,RT,RZ,Zu,rA,rB,rC,rD,rE,rF,reduceCtorEq]
    ·simp only [RS,RT,RZ,Zu,rA,rB,rC,rD,rE,rF,reduceCtorEq]
    ·(simp only [RS,RT,RZ,Zu,rA,rB,rC,rD,rE,rF,reduceCtorEq]) <;> rfl
    ·rintro e T _ ⟨rfl,⟨rfl,t4,t5⟩ | ⟨rfl,h4⟩⟩
     ·simp only [RS,RT,RZ,Zu,rA,rB,rC,rD,rE,rF,reduceCtorEq,F239,t4,t5]
     ·simp only [RS,RT,RZ,Zu,rA,rB,rC,rD,rE,rF,reduceCtorEq,F239,h4]
end
end Go.Proofs.L06

namespace Go.Proofs.L06
open Go Go.AE
open Nat renaming reduceLT → rA,reduceLeDiff → rB,reduceEqDiff → rC,reduceMul → rD,reduceAdd → rE,reduceSub → rF
set_option maxHeartbeats 8000000
def blankT (b:Int):Bool:=b == 32 || (b == 9 || b == 10)
def rchk (k:Int) (s:List Nat):Bool:=decide (0 < s.length) && (decide (s.length ≤ 40) && (!(blankT (s.getD 0 0)) && (!((s.getD 0 0:Int) == 37) && ((rtok s).1 == k && ((((rtok s).2:Nat):Int) == (s.length:Int) && !((rtok s).1 == 0))))))
theorem rchk_cons {k:Int} {s:List Nat} (h1:0 < s.length) (h2:s.length ≤ 40) (h3:blankT (s.getD 0 0) = false) (h4:((s.getD 0 0:Int) == 37) = false):rchk k s = ((rtok s).1 == k && ((((rtok s).2:Nat):Int) == (s.length:Int) && !((rtok s).1 == 0))):=by
 simp only [rchk,decT h1,decT h2,h3,h4,Bool.true_and,Bool.not_false]
section
variable {Q:Ctx} (hK:K Q)
include hK
theorem rcheck_c {k:Int} {s:List Nat} {a:Int} (hs:BStr s):Ret Q 173 [.agg [.int .i64 k,.str s,.int .i64 a]] (.int .i64 (if rchk k s then 0 else 12)):=fun st => by
 refine callY (N:=48) (ok173 hK) (hK.nx _ _ _ rfl) rfl rfl ?_
 have h40:decide ((40:Int) < (s.length:Int)) = decide (40 < s.length):=by rw [Bool.eq_iff_iff,decide_eq_true_iff,decide_eq_true_iff]; omega
 by_cases h0:0 < s.length
 ·have e0:=beqF (a:=s.length) (b:=0) (by omega)
  by_cases h1:s.length ≤ 40
  ·have e1:=decF (show ¬ 40 < s.length by omega)
   obtain ⟨b,hb⟩:∃ b,s[0]? = some b:=⟨_,List.getElem?_eq_getElem h0⟩
   have hb0:s.getD 0 0 = b:=by rw [List.getD_eq_getElem?_getD,hb]; rfl
   have hbl:=blank_c hK (b:=(b:Int))
   cases e2:blankT b with
   | true =>
    rw [show rchk k s = false by simp only [rchk,hb0,e2,Bool.not_true,Bool.false_and,Bool.and_false]]
    have e2':((b:Int) == 32 || ((b:Int) == 9 || (b:Int) == 10)) = true:=e2
    rw [e2'] at hbl
    simp only [RS,RT,RZ,Zu,rA,rB,rC,rD,rE,rF,reduceCtorEq,x173,F173,e0,h40,e1,hb,hbl,Bool.false_eq_true,if_false]
   | false =>
    have e2':((b:Int) == 32 || ((b:Int) == 9 || (b:Int) == 10)) = false:=e2
    rw [e2'] at hbl
    cases e3:(b:Int) == 37 with
    | true =>
     rw [show rchk k s = false by simp only [rchk,hb0,e3,Bool.not_true,Bool.false_and,Bool.and_false]]
     simp only [RS,RT,RZ,Zu,rA,rB,rC,rD,rE,rF,reduceCtorEq,x173,F173,e0,h40,e1,hb,hbl,e3,Bool.false_eq_true,if_false]
    | false =>
     rw [rchk_cons h0 h1 (by rw [hb0]; exact e2) (by rw [hb0]; exact e3)]
     have ht:=rtoken_c hK hs (by omega) h0
     cases e4:(rtok s).1 == k with
     | false =>
      have e4':((rtok s).1 != k) = true:=by simp [bne,e4]
      simp only [RS,RT,RZ,Zu,rA,rB,rC,rD,rE,rF,reduceCtorEq,x173,F173,e0,h40,e1,hb,hbl,e3,ht,e4',Bool.false_eq_true,if_false]
     | true =>
      have e4':((rtok s).1 != k) = false:=by simp [bne,e4]
      cases e5:(((rtok s).2:Nat):Int) == (s.length:Int) with
      | false =>
       have e5':((((rtok s).2:Nat):Int) != (s.length:Int)) = true:=by simp [bne,e5]
       simp only [RS,RT,RZ,Zu,rA,rB,rC,rD,rE,rF,reduceCtorEq,x173,F173,e0,h40,e1,hb,hbl,e3,ht,e4',e5',Bool.false_eq_true,if_false]
      | true =>
       have e5':((((rtok s).2:Nat):Int) != (s.length:Int)) = false:=by simp [bne,e5]
       cases e6:(rtok s).1 == 0 with
       | true => simp only [RS,RT,RZ,Zu,rA,rB,rC,rD,rE,rF,reduceCtorEq,x173,F173,e0,h40,e1,hb,hbl,e3,ht,e4',e5',e6,Bool.false_eq_true,if_false]
       | false => simp only [RS,RT,RZ,Zu,rA,rB,rC,rD,rE,rF,reduceCtorEq,x173,F173,e0,h40,e1,hb,hbl,e3,ht,e4',e5',e6,if_true]
  ·have e1:=decT (show 40 < s.length by omega)
   rw [show rchk k s = false by simp [rchk,h0,h1]]
   simp only [RS,RT,RZ,Zu,rA,rB,rC,rD,rE,rF,reduceCtorEq,x173,F173,e0,h40,e1,Bool.false_eq_true,if_false]
 ·have e0:=beqT (a:=s.length) (b:=0) (by omega)
  rw [show rchk k s = false by simp [rchk,h0]]
  simp only [RS,RT,RZ,Zu,rA,rB,rC,rD,rE,rF,reduceCtorEq,x173,F173,e0,Bool.false_eq_true,if_false]
theorem risName_r {s:List Nat} (hs:BStr s):Ret Q 99 [.str s] (.bool (rchk 1 s)):=fun st => by
 refine callY (N:=7) (ok99 hK) (hK.nx _ _ _ rfl) rfl rfl ?_
 have hc:=fun a => rcheck_c hK (k:=1) (a:=a) hs
 cases h:rchk 1 s with
 | true => simp only [h,if_true] at hc; simp only [RS,RT,RZ,Zu,rA,rB,rC,rD,rE,rF,reduceCtorEq,x99,F99,hc]
 | false => simp only [h,Bool.false_eq_true,if_false] at hc; simp only [RS,RT,RZ,Zu,rA,rB,rC,rD,rE,rF,reduceCtorEq,x99,F99,hc,Int.reduceBEq]
theorem risVar_r {s:List Nat} (hs:BStr s):Ret Q 132 [.str s] (.bool (rchk 2 s)):=fun st => by
 refine callY (N:=7) (ok132 hK) (hK.nx _ _ _ rfl) rfl rfl ?_
 have hc:=fun a => rcheck_c hK (k:=2) (a:=a) hs
 cases h:rchk 2 s with
 | true => simp only [h,if_true] at hc; simp only [RS,RT,RZ,Zu,rA,rB,rC,rD,rE,rF,reduceCtorEq,x132,F132,hc]
 | false => simp only [h,Bool.false_eq_true,if_false] at hc; simp only [RS,RT,RZ,Zu,rA,rB,rC,rD,rE,rF,reduceCtorEq,x132,F132,hc,Int.reduceBEq]
end
theorem scanG_pre (s:List Nat):∀ f i m acc,∃ l,(scanG s f i m acc).1 = acc ++ l
 | 0,i,m,acc => ⟨[],by simp [scanG]⟩
 | f + 1,i,m,acc => by
  rw [scanG]
  split
  ·split
   ·exact ⟨[],by simp⟩
   ·split
    ·exact ⟨[],by simp⟩
    ·split
     ·exact ⟨[],by simp⟩
     ·rename_i k n _ _ _
      obtain ⟨l,h⟩:=scanG_pre s f (skipT s (i + n)) (m + 1) (acc ++ [(k,(s.drop i).take n,i)])
      exact ⟨_,by rw [h,List.append_assoc]⟩
  ·exact ⟨[],by simp⟩
theorem skip0 {s:List Nat} (h:0 < s.length):skipT s 0 = 0 ↔ (blankT (s.getD 0 0) = false ∧ ((s.getD 0 0:Int) == 37) = false):=by
 obtain ⟨b,t,rfl⟩:∃ b t,s = b :: t:=by cases s with | nil => simp at h | cons b t => exact ⟨b,t,rfl⟩
 unfold skipT
 rw [List.drop_zero,skipN,Nat.zero_add]
 simp only [List.getD_cons_zero,blankT]
 by_cases h1:b = 32 ∨ b = 9 ∨ b = 10
 ·rw [if_pos h1]
  refine ⟨fun h => absurd h (by omega),fun ⟨h2,_⟩ => ?_⟩
  simp only [Bool.or_eq_false_iff,beq_eq_false_iff_ne] at h2
  omega
 ·rw [if_neg h1]
  by_cases h2:b = 37
  ·rw [if_pos h2]
   refine ⟨fun h3 => ?_,fun ⟨_,h3⟩ => by rw [beq_eq_false_iff_ne] at h3; omega⟩
   exfalso
   split at h3
   ·rename_i h4
    rcases idxB_spec (b :: t) 10 with h5 | ⟨n,h5,h6,h7⟩
    ·rw [show ((10:Nat):Int) = 10 from rfl] at h5; omega
    ·rw [show ((10:Nat):Int) = 10 from rfl] at h5
     rw [h5,Int.toNat_natCast] at h3
     have:n = 0:=by omega
     subst this
     simp at h7; omega
   ·simp at h3
  ·rw [if_neg h2]
   refine ⟨fun _ => ⟨?_,?_⟩,fun _ => rfl⟩
   ·simp only [Bool.or_eq_false_iff,beq_eq_false_iff_ne]; omega
   ·rw [beq_eq_false_iff_ne]; omega
theorem chk_eq {k:Int} (hk:k = 1 ∨ k = 2) (s:List Nat):chk1 k s = rchk k s:=by
 rw [Bool.eq_iff_iff]
 constructor
 ·intro h
  simp only [chk1,Bool.and_eq_true,Bool.not_eq_true',decide_eq_false_iff_not] at h
  obtain ⟨hl,h⟩:=h
  split at h
  ·cases h
  ·rename_i hR
   split at h
   ·rename_i t hT
    simp only [Bool.and_eq_true,beq_iff_eq] at h
    obtain ⟨hk1,hk2⟩:=h
    unfold scanR at hR hT
    rw [scanG] at hR hT
    by_cases hi:skipT s 0 < s.length
    ·rw [if_pos hi] at hR hT
     cases hF:tokF (s.drop (skipT s 0)) with
     | none => rw [hF] at hR; cases hR
     | some kn =>
      obtain ⟨k',n⟩:=kn
      rw [hF] at hR hT
      simp only at hR hT
      rw [if_neg (by decide)] at hR hT
      by_cases hbig:(k' = 1 ∨ k' = 2) ∧ 40 < n
      ·rw [if_pos hbig] at hR; cases hR
      ·rw [if_neg hbig] at hR hT
       obtain ⟨l,hl2⟩:=scanG_pre s s.length (skipT s (skipT s 0 + n)) (0 + 1) ([] ++ [(k',(s.drop (skipT s 0)).take n,skipT s 0)])
       rw [hT,List.nil_append] at hl2
       have ht:t = (k',(s.drop (skipT s 0)).take n,skipT s 0):=by
        have:=congrArg List.head? hl2; simpa using this
       subst ht
       simp only at hk1 hk2
       subst hk1
       obtain ⟨b1,b2⟩:=tokF_bound (by simp; omega) hF
       have hlen:=congrArg List.length hk2
       simp only [List.length_take,List.length_drop] at hlen b2
       have hi0:skipT s 0 = 0:=by omega
       have hn:n = s.length:=by omega
       have hs0:0 < s.length:=by omega
       obtain ⟨c1,c2⟩:=(skip0 hs0).1 hi0
       rw [hi0,List.drop_zero] at hF
       have hrt:rtok s = (k',n):=by unfold rtok; rw [hF]
       rw [rchk_cons hs0 (by omega) c1 c2,hrt]
       simp only [hn,beq_self_eq_true,Bool.true_and,Bool.not_eq_true',beq_eq_false_iff_ne]
       omega
    ·rw [if_neg hi] at hT
     cases hT
   ·cases h
 ·intro h
  have h':=h
  simp only [rchk,Bool.and_eq_true,Bool.not_eq_true',decide_eq_true_eq] at h'
  obtain ⟨h0,h1,h2,h3,h4,h5,h6⟩:=h'
  rw [beq_iff_eq] at h4 h5
  rw [beq_eq_false_iff_ne] at h6
  have hi0:skipT s 0 = 0:=(skip0 h0).2 ⟨h2,h3⟩
  have hF:tokF s = some (k,s.length):=by
   cases hF:tokF s with
   | none => rw [rtok,hF] at h6; exact absurd rfl h6
   | some x =>
    obtain ⟨a,b⟩:=x
    rw [rtok,hF] at h4 h5
    simp only at h4 h5
    rw [h4,show b = s.length by omega]
  have e:scanR s = ([(k,s,0)],none):=by
   unfold scanR
   rw [hi0,scanG,if_pos h0,List.drop_zero,hF]
   simp only
   rw [if_neg (by decide),if_neg (by omega)]
   have hsk:skipT s (0 + s.length) = s.length:=by
    unfold skipT
    rw [Nat.zero_add,List.drop_length,skipN_nil,Nat.add_zero]
   rw [hsk]
   obtain ⟨g,hg⟩:∃ g,s.length = g + 1:=⟨s.length - 1,by omega⟩
   have:∀ g acc,scanG s (g + 1) s.length (0 + 1) acc = (acc,none):=fun g acc => by rw [scanG,if_neg (Nat.lt_irrefl _)]
   conv => lhs; rw [show scanG s s.length = scanG s (g + 1) by rw [← hg]]
   rw [this,List.nil_append,List.take_length]
  simp only [chk1,e,beq_self_eq_true,Bool.and_self,Bool.and_true,Bool.not_eq_true',decide_eq_false_iff_not]
  omega
section
variable {Q:Ctx} (hK:K Q)
include hK
theorem risName_c {s:List Nat} (hs:BStr s):Ret Q 99 [.str s] (.bool (chk1 1 s)):=by rw [chk_eq (.inl rfl)]; exact risName_r hK hs
theorem risVar_c {s:List Nat} (hs:BStr s):Ret Q 132 [.str s] (.bool (chk1 2 s)):=by rw [chk_eq (.inr rfl)]; exact risVar_r hK hs
end
end Go.Proofs.L06
