/- The reference: Raw, Size, Same, Compare. -/
import Derived.Test.YtdlahjpoiichkaaGreatDoorS7
set_option linter.unusedVariables false
set_option linter.unusedSimpArgs false
set_option linter.unusedSectionVars false
namespace Go.Proofs.L06
open Go Go.AE
open Nat renaming reduceLT → rA,reduceLeDiff → rB,reduceEqDiff → rC,reduceMul → rD,reduceAdd → rE,reduceSub → rF
set_option maxHeartbeats 8000000
theorem ofVi {k:IntKind} {n:Int}:ofV (.int k n) = .int k n:=(rfl)
section
variable {Q:Ctx} (hK:K Q)
include hK
theorem terms172:∀ (t:Tm),t.Ok → ∀ m:Nat,m ≤ 4000 → Ret Q 172 [t.av,.int .i64 (m:Int)] (.int .i64 ((min t.sz (m + 1):Nat):Int)):=by
 intro t
 induction t using Tm.ind with
 | _ kd n nm k xs ih =>
 intro hok m hm st
 refine callY (N:=31) (ok172 hK) (hK.nx _ _ _ rfl) rfl rfl ?_
 obtain ⟨_,_,_,_,hl,hoks⟩:=hok
 simp only [RS,RT,RZ,Zu,rA,rB,rC,rD,rE,rF,reduceCtorEq,Zw,x172,y172,F172,Tm.av]
 refine post_bind (post_for (I:=fun i T st1 => T 1 = .int .i64 (m:Int) ∧ T 2 = .ptr st.next 0 ∧ T 5 = .int .i64 ((min (1 + ((xs.take i).map Tm.sz).sum) (m + 1):Nat):Int) ∧ T 6 = .int .i64 (i:Int) ∧
    st1 = ⟨upd st.heap st.next (.mem 39 [.int .i64 kd,.int .i64 n,.str nm,.slice k (Tm.avs xs)] true 0),st.next + 1,[]⟩)
  (Q:=fun e T st1 => e = .exit 0 ∧ T 5 = .int .i64 ((min (1 + Tm.szs xs) (m + 1):Nat):Int) ∧ st1 = ⟨upd st.heap st.next (.mem 39 [.int .i64 kd,.int .i64 n,.str nm,.slice k (Tm.avs xs)] true 0),st.next + 1,[]⟩)
  xs.length ?_ ?_ (Nat.zero_le _) ?_) ?_
 ·rintro i T _ hi ⟨t1,t2,t5,t6,rfl⟩
  obtain ⟨a,ha⟩:∃ a,xs[i]? = some a:=⟨_,List.getElem?_eq_getElem hi⟩
  have ham:=List.mem_of_getElem? ha
  have hget:=Tm.get ha
  have hsum:=take_sum (g:=Tm.sz) ha
  have hle:=take_le (g:=Tm.sz) xs i
  rw [hsum]
  obtain ⟨s,hs⟩:∃ s,s = ((xs.take i).map Tm.sz).sum:=⟨_,rfl⟩
  rw [← hs] at t5 hle ⊢
  have hi2:=wrapUp (show i < 9223372036854775807 by unfold Big at hl; omega)
  have hlt:=decT (show (i:Int) < (xs.length:Int) by omega)
  by_cases hk:1 + s ≤ m
  ·rw [show min (1 + s) (m + 1) = 1 + s by omega] at t5
   have hc:=ih a ham (Tm.oks hoks _ ham) (m - (1 + s)) (by omega)
   have hd:=decT hk
   have hw1:=wrapN (z:=(m:Int) - ((1 + s:Nat):Int)) (n:=m - (1 + s)) (by omega) (by omega)
   have hw2:=wrapN (z:=((1 + s:Nat):Int) + ((min a.sz (m - (1 + s) + 1):Nat):Int)) (n:=min (1 + (s + a.sz)) (m + 1)) (by omega) (by omega)
   obtain ⟨kd',n',nm',k',xs'⟩:=a
   rw [Tm.av] at hc hget
   simp only [RS,RT,RZ,Zu,rA,rB,rC,rD,rE,rF,reduceCtorEq,Zw,l172_0,m172_0,t1,t2,t5,t6,hi,hget,hc,hd,hw1,hw2,hi2,Tm.len,hlt]
  ·rw [show min (1 + s) (m + 1) = m + 1 by omega] at t5
   have hd:=decF (show ¬ m + 1 ≤ m by omega)
   have hx:min (1 + Tm.szs xs) (m + 1) = m + 1:=by rw [Tm.szs_eq]; omega
   simp only [RS,RT,RZ,Zu,rA,rB,rC,rD,rE,rF,reduceCtorEq,Zw,l172_0,m172_0,t1,t2,t5,t6,hi,hget,hd,hi2,Tm.len,hlt,hx]
 ·rintro T _ ⟨t1,t2,t5,t6,rfl⟩
  rw [List.take_length,← Tm.szs_eq] at t5
  simp only [RS,RT,RZ,Zu,rA,rB,rC,rD,rE,rF,reduceCtorEq,Zw,l172_0,m172_0,t1,t2,t5,t6,Tm.len]
 ·have hx:min (1 + 0) (m + 1) = 1:=by omega
  simp only [RS,RT,RZ,Zu,rA,rB,rC,rD,rE,rF,reduceCtorEq,Zw,Tm.len,List.take_zero,List.sum_nil,hx]
 ·rintro e T _ ⟨rfl,h5,rfl⟩
  simp only [RS,RT,RZ,Zu,rA,rB,rC,rD,rE,rF,reduceCtorEq,Zw,h5,Tm.sz]
theorem terms96 {k:SK} {xs:List Tm} (hl:xs.length < Big) (hoks:Tm.Oks xs) (m:Nat) (hm:m ≤ 4000):Ret Q 96 [.slice k (Tm.avs xs),.int .i64 ((m:Int) - 1)] (.int .i64 ((min (Tm.szs xs) m:Nat):Int)):=fun st => by
 refine callY (N:=29) (ok96 hK) (hK.nx _ _ _ rfl) rfl rfl ?_
 simp only [RS,RT,RZ,Zu,rA,rB,rC,rD,rE,rF,reduceCtorEq,Zw,x96,y96,F96]
 refine post_bind (post_for (I:=fun i T st1 => T 0 = .slice k (Tm.avs xs) ∧ T 1 = .int .i64 ((m:Int) - 1) ∧ T 5 = .int .i64 ((min (((xs.take i).map Tm.sz).sum) m:Nat):Int) ∧ T 6 = .int .i64 (i:Int) ∧ st1 = ⟨st.heap,st.next,[]⟩)
  (Q:=fun e T st1 => e = .exit 0 ∧ T 5 = .int .i64 ((min (Tm.szs xs) m:Nat):Int) ∧ st1 = ⟨st.heap,st.next,[]⟩)
  xs.length ?_ ?_ (Nat.zero_le _) ?_) ?_
 ·rintro i T _ hi ⟨t0,t1,t5,t6,rfl⟩
  obtain ⟨a,ha⟩:∃ a,xs[i]? = some a:=⟨_,List.getElem?_eq_getElem hi⟩
  have ham:=List.mem_of_getElem? ha
  have hget:=Tm.get ha
  have hsum:=take_sum (g:=Tm.sz) ha
  have hle:=take_le (g:=Tm.sz) xs i
  rw [hsum]
  obtain ⟨s,hs⟩:∃ s,s = ((xs.take i).map Tm.sz).sum:=⟨_,rfl⟩
  rw [← hs] at t5 hle ⊢
  have hi2:=wrapUp (show i < 9223372036854775807 by unfold Big at hl; omega)
  have hlt:=decT (show (i:Int) < (xs.length:Int) by omega)
  by_cases hk:s + 1 ≤ m
  ·rw [show min s m = s by omega] at t5
   have hc:=terms172 hK a (Tm.oks hoks _ ham) (m - (1 + s)) (by omega)
   have hd:=decT (show (s:Int) ≤ (m:Int) - 1 by omega)
   have hw1:=wrapN (z:=(m:Int) - 1 - (s:Int)) (n:=m - (1 + s)) (by omega) (by omega)
   have hw2:=wrapN (z:=(s:Int) + ((min a.sz (m - (1 + s) + 1):Nat):Int)) (n:=min (s + a.sz) m) (by omega) (by omega)
   obtain ⟨kd',n',nm',k',xs'⟩:=a
   rw [Tm.av] at hc hget
   simp only [RS,RT,RZ,Zu,rA,rB,rC,rD,rE,rF,reduceCtorEq,Zw,l96_0,m96_0,t0,t1,t5,t6,hi,hget,hc,hd,hw1,hw2,hi2,Tm.len,hlt]
  ·rw [show min s m = m by omega] at t5
   have hd:=decF (show ¬ (m:Int) ≤ (m:Int) - 1 by omega)
   have hx:min (Tm.szs xs) m = m:=by rw [Tm.szs_eq]; omega
   simp only [RS,RT,RZ,Zu,rA,rB,rC,rD,rE,rF,reduceCtorEq,Zw,l96_0,m96_0,t0,t1,t5,t6,hi,hget,hd,hi2,Tm.len,hlt,hx]
 ·rintro T _ ⟨t0,t1,t5,t6,rfl⟩
  rw [List.take_length,← Tm.szs_eq] at t5
  simp only [RS,RT,RZ,Zu,rA,rB,rC,rD,rE,rF,reduceCtorEq,Zw,l96_0,m96_0,t0,t1,t5,t6,Tm.len]
 ·have hx:min 0 m = 0:=by omega
  simp only [RS,RT,RZ,Zu,rA,rB,rC,rD,rE,rF,reduceCtorEq,Zw,Tm.len,List.take_zero,List.sum_nil,hx]
 ·rintro e T _ ⟨rfl,h5,rfl⟩
  simp only [RS,RT,RZ,Zu,rA,rB,rC,rD,rE,rF,reduceCtorEq,Zw,h5]
theorem count41:∀ (f:Fo),f.Ok → ∀ m:Nat,m ≤ 4000 → Ret Q 41 [f.av,.int .i64 (m:Int)] (.int .i64 ((min f.sz (m + 1):Nat):Int)):=by
 intro f
 induction f using Fo.ind with
 | _ kd nm ka xs ty kl ls ih =>
 intro hok m hm st
 refine callY (N:=37) (ok41 hK) (hK.nx _ _ _ rfl) rfl rfl ?_
 obtain ⟨_,_,_,hl,hoks,_,_,hl2,hoks2⟩:=hok
 have h96:=terms96 hK (k:=ka) hl hoks m hm
 have hw0:=wrap64 (show -9223372036854775808 ≤ (m:Int) - 1 by omega) (show (m:Int) - 1 ≤ 9223372036854775807 by omega)
 have hw1:=wrapN (z:=1 + ((min (Tm.szs xs) m:Nat):Int)) (n:=min (1 + Tm.szs xs) (m + 1)) (by omega) (by omega)
 simp only [RS,RT,RZ,Zu,rA,rB,rC,rD,rE,rF,reduceCtorEq,Zw,x41,y41,F41,Fo.av,h96,hw0,hw1]
 obtain ⟨s0,hs0⟩:∃ s0,s0 = 1 + Tm.szs xs:=⟨_,rfl⟩
 rw [← hs0]
 refine post_bind (post_for (I:=fun i T st1 => T 1 = .int .i64 (m:Int) ∧ T 2 = .ptr st.next 0 ∧ T 5 = .int .i64 ((min (s0 + ((ls.take i).map Fo.sz).sum) (m + 1):Nat):Int) ∧ T 6 = .int .i64 (i:Int) ∧
    st1 = ⟨upd st.heap st.next (.mem 28 [.int .i64 kd,.str nm,.slice ka (Tm.avs xs),.str ty.nm,.slice ty.k (Ty.avs ty.xs),.slice kl (Fo.avs ls)] true 0),st.next + 1,[]⟩)
  (Q:=fun e T st1 => e = .exit 0 ∧ T 5 = .int .i64 ((min (s0 + Fo.szs ls) (m + 1):Nat):Int) ∧ st1 = ⟨upd st.heap st.next (.mem 28 [.int .i64 kd,.str nm,.slice ka (Tm.avs xs),.str ty.nm,.slice ty.k (Ty.avs ty.xs),.slice kl (Fo.avs ls)] true 0),st.next + 1,[]⟩)
  ls.length ?_ ?_ (Nat.zero_le _) ?_) ?_
 ·rintro i T _ hi ⟨t1,t2,t5,t6,rfl⟩
  obtain ⟨a,ha⟩:∃ a,ls[i]? = some a:=⟨_,List.getElem?_eq_getElem hi⟩
  have ham:=List.mem_of_getElem? ha
  have hget:=Fo.get ha
  have hsum:=take_sum (g:=Fo.sz) ha
  have hle:=take_le (g:=Fo.sz) ls i
  rw [hsum]
  obtain ⟨s,hs⟩:∃ s,s = ((ls.take i).map Fo.sz).sum:=⟨_,rfl⟩
  rw [← hs] at t5 hle ⊢
  have hi2:=wrapUp (show i < 9223372036854775807 by unfold Big at hl2; omega)
  have hlt:=decT (show (i:Int) < (ls.length:Int) by omega)
  by_cases hk:s0 + s ≤ m
  ·rw [show min (s0 + s) (m + 1) = s0 + s by omega] at t5
   have hc:=ih a ham (Fo.oks hoks2 _ ham) (m - (s0 + s)) (by omega)
   have hd:=decT hk
   have hw1:=wrapN (z:=(m:Int) - ((s0 + s:Nat):Int)) (n:=m - (s0 + s)) (by omega) (by omega)
   have hw2:=wrapN (z:=((s0 + s:Nat):Int) + ((min a.sz (m - (s0 + s) + 1):Nat):Int)) (n:=min (s0 + (s + a.sz)) (m + 1)) (by omega) (by omega)
   obtain ⟨kd',nm',ka',xs',ty',kl',ls'⟩:=a
   rw [Fo.av] at hc hget
   simp only [RS,RT,RZ,Zu,rA,rB,rC,rD,rE,rF,reduceCtorEq,Zw,l41_0,m41_0,t1,t2,t5,t6,hi,hget,hc,hd,hw1,hw2,hi2,Fo.len,hlt]
  ·rw [show min (s0 + s) (m + 1) = m + 1 by omega] at t5
   have hd:=decF (show ¬ m + 1 ≤ m by omega)
   have hx:min (s0 + Fo.szs ls) (m + 1) = m + 1:=by rw [Fo.szs_eq]; omega
   simp only [RS,RT,RZ,Zu,rA,rB,rC,rD,rE,rF,reduceCtorEq,Zw,l41_0,m41_0,t1,t2,t5,t6,hi,hget,hd,hi2,Fo.len,hlt,hx]
 ·rintro T _ ⟨t1,t2,t5,t6,rfl⟩
  rw [List.take_length,← Fo.szs_eq] at t5
  simp only [RS,RT,RZ,Zu,rA,rB,rC,rD,rE,rF,reduceCtorEq,Zw,l41_0,m41_0,t1,t2,t5,t6,Fo.len]
 ·simp only [RS,RT,RZ,Zu,rA,rB,rC,rD,rE,rF,reduceCtorEq,Zw,Fo.len,List.take_zero,List.sum_nil,Nat.add_zero]
 ·rintro e T _ ⟨rfl,h5,rfl⟩
  rw [hs0] at h5
  simp only [RS,RT,RZ,Zu,rA,rB,rC,rD,rE,rF,reduceCtorEq,Zw,h5,Fo.sz]
theorem size10 {f:Fo} (hok:f.Ok):Ret Q 10 [f.av] (.int .i64 (sizeT f:Int)):=fun st => by
 refine callY (N:=6) (ok10 hK) (hK.nx _ _ _ rfl) rfl rfl ?_
 have hc:=count41 hK f hok 4000 (Nat.le_refl _)
 have hx:((min f.sz 4001:Nat):Int) = (sizeT f:Int):=by unfold sizeT; split <;> (congr 1; omega)
 rw [show 4000 + 1 = 4001 from rfl,hx,show ((4000:Nat):Int) = 4000 from rfl] at hc
 have hx2:(sizeT f:Int) ≤ 4001:=by unfold sizeT; split <;> omega
 obtain ⟨kd,nm,ka,xs,ty,kl,ls⟩:=f
 have hx3:=eq_false (show ¬ (4001:Int) < (sizeT (.mk kd nm ka xs ty kl ls):Int) by omega)
 rw [Fo.av] at hc ⊢
 simp only [RS,RT,RZ,Zu,rA,rB,rC,rD,rE,rF,reduceCtorEq,Zw,x10,F10,hc,ofVi,hx3]
 rw [if_neg (fun h => h),if_neg (fun h => h)]
end
end Go.Proofs.L06

namespace Go.Proofs.L06
open Go Go.AE
open Nat renaming reduceLT → rA,reduceLeDiff → rB,reduceEqDiff → rC,reduceMul → rD,reduceAdd → rE,reduceSub → rF
set_option maxHeartbeats 8000000
def mx (l:List Nat):Nat:=l.foldl max 0
theorem foldl_max (l:List Nat) (a:Nat):l.foldl max a = max a (mx l):=by
 unfold mx
 induction l generalizing a with
 | nil => simp
 | cons x r ih => rw [List.foldl_cons,List.foldl_cons,ih,ih (max 0 x)]; omega
theorem mx_nil:mx [] = 0:=rfl
theorem mx_cons (a:Nat) (l:List Nat):mx (a :: l) = max a (mx l):=by rw [mx,List.foldl_cons,foldl_max]; omega
theorem mx_take {α:Type} {g:α → Nat} {l:List α} {i:Nat} {t:α} (h:l[i]? = some t):mx ((l.take (i + 1)).map g) = max (mx ((l.take i).map g)) (g t):=by
 rw [List.take_add_one,h,List.map_append]
 simp [mx,List.foldl_append]
theorem mx_le {n:Nat}:∀ {l:List Nat},(∀ a ∈ l,a ≤ n) → mx l ≤ n
 | [],_ => Nat.zero_le _
 | a :: r,h => by rw [mx_cons]; exact Nat.max_le.2 ⟨h a (List.mem_cons_self ..),mx_le fun b hb => h b (List.mem_cons_of_mem _ hb)⟩
theorem max_lt2 {n a b:Nat}:n < max a b ↔ n < a ∨ n < b:=by omega
theorem mx_lt {n:Nat}:∀ {l:List Nat},n < mx l ↔ ∃ a ∈ l,n < a
 | [] => by simp [mx]
 | a :: r => by rw [mx_cons,max_lt2,mx_lt]; simp
def Tm.rd:Nat → Tm → Nat
 | 0,_ => 1
 | n + 1,.mk _ _ _ _ xs => mx (xs.map (Tm.rd n)) + 1
def Ty.rd:Nat → Ty → Nat
 | 0,_ => 1
 | n + 1,.mk _ _ xs => mx (xs.map (Ty.rd n)) + 1
def Fo.rd:Nat → Fo → Nat
 | 0,_ => 1
 | n + 1,.mk _ _ _ xs _ _ ls => max (mx (xs.map (Tm.rd (n + 1)))) (mx (ls.map (Fo.rd n))) + 1
theorem Tm.rd_le:∀ (n:Nat) (t:Tm),t.rd n ≤ n + 1
 | 0,_ => Nat.le_refl _
 | n + 1,.mk _ _ _ _ xs => by
  rw [Tm.rd]
  have:=mx_le (l:=xs.map (Tm.rd n)) (n:=n + 1) fun a ha => by obtain ⟨x,_,rfl⟩:=List.mem_map.1 ha; exact Tm.rd_le n x
  omega
theorem Ty.rd_le:∀ (n:Nat) (t:Ty),t.rd n ≤ n + 1
 | 0,_ => Nat.le_refl _
 | n + 1,.mk _ _ xs => by
  rw [Ty.rd]
  have:=mx_le (l:=xs.map (Ty.rd n)) (n:=n + 1) fun a ha => by obtain ⟨x,_,rfl⟩:=List.mem_map.1 ha; exact Ty.rd_le n x
  omega
theorem Fo.rd_le:∀ (n:Nat) (t:Fo),t.rd n ≤ n + 2
 | 0,_ => by simp [Fo.rd]
 | n + 1,.mk _ _ _ xs _ _ ls => by
  rw [Fo.rd]
  have h1:=mx_le (l:=xs.map (Tm.rd (n + 1))) (n:=n + 2) fun a ha => by obtain ⟨x,_,rfl⟩:=List.mem_map.1 ha; exact Tm.rd_le (n + 1) x
  have h2:=mx_le (l:=ls.map (Fo.rd n)) (n:=n + 2) fun a ha => by obtain ⟨x,_,rfl⟩:=List.mem_map.1 ha; exact Fo.rd_le n x
  omega
theorem Tm.rd_dp:∀ (n m:Nat) (t:Tm),n ≤ m → (n < t.rd m ↔ t.dp n = true)
 | 0,0,_,_ => by simp [Tm.rd,Tm.dp]
 | 0,m + 1,.mk _ _ _ _ xs,_ => by simp [Tm.rd,Tm.dp]
 | n + 1,m + 1,.mk _ _ _ _ xs,h => by
  rw [Tm.rd,Tm.dp,List.any_eq_true,Nat.add_lt_add_iff_right,mx_lt]
  constructor
  ·rintro ⟨a,ha,k⟩
   obtain ⟨x,hx,rfl⟩:=List.mem_map.1 ha
   exact ⟨x,hx,(Tm.rd_dp n m x (by omega)).1 k⟩
  ·rintro ⟨x,hx,k⟩
   exact ⟨_,List.mem_map.2 ⟨x,hx,rfl⟩,(Tm.rd_dp n m x (by omega)).2 k⟩
theorem Ty.rd_dp:∀ (n m:Nat) (t:Ty),n ≤ m → (n < t.rd m ↔ t.dp n = true)
 | 0,0,_,_ => by simp [Ty.rd,Ty.dp]
 | 0,m + 1,.mk _ _ xs,_ => by simp [Ty.rd,Ty.dp]
 | n + 1,m + 1,.mk _ _ xs,h => by
  rw [Ty.rd,Ty.dp,List.any_eq_true,Nat.add_lt_add_iff_right,mx_lt]
  constructor
  ·rintro ⟨a,ha,k⟩
   obtain ⟨x,hx,rfl⟩:=List.mem_map.1 ha
   exact ⟨x,hx,(Ty.rd_dp n m x (by omega)).1 k⟩
  ·rintro ⟨x,hx,k⟩
   exact ⟨_,List.mem_map.2 ⟨x,hx,rfl⟩,(Ty.rd_dp n m x (by omega)).2 k⟩
theorem Fo.rd_dp:∀ (n m:Nat) (t:Fo),n ≤ m → (n < t.rd m ↔ t.dp n = true)
 | 0,0,_,_ => by simp [Fo.rd,Fo.dp]
 | 0,m + 1,.mk _ _ _ xs _ _ ls,_ => by simp [Fo.rd,Fo.dp]
 | n + 1,m + 1,.mk _ _ _ xs _ _ ls,h => by
  rw [Fo.rd,Fo.dp,Bool.or_eq_true,List.any_eq_true,List.any_eq_true,Nat.add_lt_add_iff_right,max_lt2,mx_lt,mx_lt]
  constructor
  ·rintro (⟨a,ha,k⟩ | ⟨a,ha,k⟩)
   ·obtain ⟨x,hx,rfl⟩:=List.mem_map.1 ha
    exact .inl ⟨x,hx,(Tm.rd_dp n (m + 1) x (by omega)).1 k⟩
   ·obtain ⟨x,hx,rfl⟩:=List.mem_map.1 ha
    exact .inr ⟨x,hx,(Fo.rd_dp n m x (by omega)).1 k⟩
  ·rintro (⟨x,hx,k⟩ | ⟨x,hx,k⟩)
   ·exact .inl ⟨_,List.mem_map.2 ⟨x,hx,rfl⟩,(Tm.rd_dp n (m + 1) x (by omega)).2 k⟩
   ·exact .inr ⟨_,List.mem_map.2 ⟨x,hx,rfl⟩,(Fo.rd_dp n m x (by omega)).2 k⟩
section
variable {Q:Ctx} (hK:K Q)
include hK
omit hK in
theorem minN {a b:Nat}:(if False then (if a < b then (b:Int) else (a:Int)) else (if b < a then (b:Int) else (a:Int))) = ((min a b:Nat):Int):=by
 rw [if_neg (fun h => h)]; split <;> (congr 1; omega)
theorem deep97:∀ n:Nat,n ≤ 100 → ∀ t:Tm,t.Ok → Ret Q 97 [t.av,.int .i64 ((n:Int) - 1)] (.int .i64 (t.rd n:Int)):=by
 intro n
 induction n with
 | zero =>
  rintro - ⟨kd,nn,nm,k,xs⟩ hok st
  refine callY (N:=28) (ok97 hK) (hK.nx _ _ _ rfl) rfl rfl ?_
  rw [show ((0:Nat):Int) - 1 = -1 from rfl]
  have hd:=decT (show (-1:Int) < 0 by omega)
  simp only [RS,RT,RZ,Zu,rA,rB,rC,rD,rE,rF,reduceCtorEq,Zw,x97,y97,F97,Tm.av,Tm.rd,hd]
 | succ n ih =>
  rintro hn ⟨kd,nn,nm,k,xs⟩ hok st
  refine callY (N:=28) (ok97 hK) (hK.nx _ _ _ rfl) rfl rfl ?_
  obtain ⟨_,_,_,_,hl,hoks⟩:=hok
  rw [show ((n + 1:Nat):Int) - 1 = (n:Int) by omega]
  have hd:=decF (show ¬ (n:Int) < 0 by omega)
  simp only [RS,RT,RZ,Zu,rA,rB,rC,rD,rE,rF,reduceCtorEq,Zw,x97,y97,F97,Tm.av,hd]
  refine post_bind (post_for (I:=fun i T st1 => T 1 = .int .i64 (n:Int) ∧ T 2 = .ptr st.next 0 ∧ T 5 = .int .i64 (mx ((xs.take i).map (Tm.rd n)):Int) ∧ T 6 = .int .i64 (i:Int) ∧
    st1 = ⟨upd st.heap st.next (.mem 39 [.int .i64 kd,.int .i64 nn,.str nm,.slice k (Tm.avs xs)] true 0),st.next + 1,[]⟩)
   (Q:=fun e T st1 => e = .exit 0 ∧ T 5 = .int .i64 (mx (xs.map (Tm.rd n)):Int) ∧ st1 = ⟨upd st.heap st.next (.mem 39 [.int .i64 kd,.int .i64 nn,.str nm,.slice k (Tm.avs xs)] true 0),st.next + 1,[]⟩)
   xs.length ?_ ?_ (Nat.zero_le _) ?_) ?_
  ·rintro i T _ hi ⟨t1,t2,t5,t6,rfl⟩
   obtain ⟨a,ha⟩:∃ a,xs[i]? = some a:=⟨_,List.getElem?_eq_getElem hi⟩
   have ham:=List.mem_of_getElem? ha
   have hget:=Tm.get ha
   have hc:=ih (by omega) a (Tm.oks hoks _ ham)
   have hi2:=wrapUp (show i < 9223372036854775807 by unfold Big at hl; omega)
   have hw:=wrap64 (show -9223372036854775808 ≤ (n:Int) - 1 by omega) (show (n:Int) - 1 ≤ 9223372036854775807 by omega)
   rw [mx_take ha]
   obtain ⟨kd',n',nm',k',xs'⟩:=a
   rw [Tm.av] at hc hget
   simp only [RS,RT,RZ,Zu,rA,rB,rC,rD,rE,rF,reduceCtorEq,Zw,l97_0,m97_0,t1,t2,t5,t6,hi,hget,hc,hw,hi2,Tm.len,maxI]
  ·rintro T _ ⟨t1,t2,t5,t6,rfl⟩
   rw [List.take_length] at t5
   simp only [RS,RT,RZ,Zu,rA,rB,rC,rD,rE,rF,reduceCtorEq,Zw,l97_0,m97_0,t1,t2,t5,t6,Tm.len]
  ·simp only [RS,RT,RZ,Zu,rA,rB,rC,rD,rE,rF,reduceCtorEq,Zw,Tm.len,List.take_zero,mx,List.foldl_nil]
  ·rintro e T _ ⟨rfl,h5,rfl⟩
   have hb:=mx_le (l:=xs.map (Tm.rd n)) (n:=n + 1) fun a ha => by obtain ⟨x,_,rfl⟩:=List.mem_map.1 ha; exact Tm.rd_le n x
   have hw:=wrapUp (show mx (xs.map (Tm.rd n)) < 9223372036854775807 by omega)
   simp only [RS,RT,RZ,Zu,rA,rB,rC,rD,rE,rF,reduceCtorEq,Zw,h5,Tm.rd,hw]
theorem depth188:∀ n:Nat,n ≤ 100 → ∀ t:Tm,t.Ok → Ret Q 188 [t.av,.int .i64 ((n + 1:Nat):Int)] (.int .i64 (t.rd n:Int)):=by
 intro n
 induction n with
 | zero =>
  rintro - ⟨kd,nn,nm,k,xs⟩ hok st
  refine callY (N:=32) (ok188 hK) (hK.nx _ _ _ rfl) rfl rfl ?_
  obtain ⟨_,_,_,_,hl,hoks⟩:=hok
  have e1:((0 + 1:Nat):Int) = 1:=rfl
  rw [e1]
  simp only [RS,RT,RZ,Zu,rA,rB,rC,rD,rE,rF,reduceCtorEq,Zw,x188,y188,F188,Tm.av,Tm.rd]
  refine post_bind (post_for (I:=fun i T st1 => i = 0 ∧ T 1 = .int .i64 1 ∧ T 2 = .ptr st.next 0 ∧ T 5 = .int .i64 0 ∧ T 6 = .int .i64 0 ∧ st1 = ⟨upd st.heap st.next (.mem 39 [.int .i64 kd,.int .i64 nn,.str nm,.slice k (Tm.avs xs)] true 0),st.next + 1,[]⟩)
   (Q:=fun e T st1 => e = .exit 0 ∧ T 1 = .int .i64 1 ∧ T 5 = .int .i64 0 ∧ st1 = ⟨upd st.heap st.next (.mem 39 [.int .i64 kd,.int .i64 nn,.str nm,.slice k (Tm.avs xs)] true 0),st.next + 1,[]⟩)
   xs.length ?_ ?_ (Nat.zero_le _) ?_) ?_
  ·rintro i T _ hi ⟨rfl,t1,t2,t5,t6,rfl⟩
   have hlt:=decT (show (0:Int) < (xs.length:Int) by omega)
   have h11:=decF (show ¬ (1:Int) < 1 by omega)
   simp only [RS,RT,RZ,Zu,rA,rB,rC,rD,rE,rF,reduceCtorEq,Zw,l188_0,m188_0,t1,t2,t5,t6,hlt,h11,Tm.len]
  ·rintro T _ ⟨hi,t1,t2,t5,t6,rfl⟩
   have hlt:=decF (show ¬ (0:Int) < (xs.length:Int) by omega)
   simp only [RS,RT,RZ,Zu,rA,rB,rC,rD,rE,rF,reduceCtorEq,Zw,l188_0,m188_0,t1,t2,t5,t6,hlt,Tm.len]
  ·simp only [RS,RT,RZ,Zu,rA,rB,rC,rD,rE,rF,reduceCtorEq,Zw,Tm.len]
  ·rintro e T _ ⟨rfl,h1,h5,rfl⟩
   simp only [RS,RT,RZ,Zu,rA,rB,rC,rD,rE,rF,reduceCtorEq,Zw,h1,h5]
   rw [if_neg (fun h => h)]; rfl
 | succ n ih =>
  rintro hn ⟨kd,nn,nm,k,xs⟩ hok st
  refine callY (N:=32) (ok188 hK) (hK.nx _ _ _ rfl) rfl rfl ?_
  obtain ⟨_,_,_,_,hl,hoks⟩:=hok
  have hd:=decT (show (1:Int) < ((n + 1 + 1:Nat):Int) by omega)
  simp only [RS,RT,RZ,Zu,rA,rB,rC,rD,rE,rF,reduceCtorEq,Zw,x188,y188,F188,Tm.av]
  refine post_bind (post_for (I:=fun i T st1 => T 1 = .int .i64 ((n + 1 + 1:Nat):Int) ∧ T 2 = .ptr st.next 0 ∧ T 5 = .int .i64 (mx ((xs.take i).map (Tm.rd n)):Int) ∧ T 6 = .int .i64 (i:Int) ∧
    st1 = ⟨upd st.heap st.next (.mem 39 [.int .i64 kd,.int .i64 nn,.str nm,.slice k (Tm.avs xs)] true 0),st.next + 1,[]⟩)
   (Q:=fun e T st1 => e = .exit 0 ∧ T 1 = .int .i64 ((n + 1 + 1:Nat):Int) ∧ T 5 = .int .i64 (mx (xs.map (Tm.rd n)):Int) ∧ st1 = ⟨upd st.heap st.next (.mem 39 [.int .i64 kd,.int .i64 nn,.str nm,.slice k (Tm.avs xs)] true 0),st.next + 1,[]⟩)
   xs.length ?_ ?_ (Nat.zero_le _) ?_) ?_
  ·rintro i T _ hi ⟨t1,t2,t5,t6,rfl⟩
   obtain ⟨a,ha⟩:∃ a,xs[i]? = some a:=⟨_,List.getElem?_eq_getElem hi⟩
   have ham:=List.mem_of_getElem? ha
   have hget:=Tm.get ha
   have hc:=ih (by omega) a (Tm.oks hoks _ ham)
   have hi2:=wrapUp (show i < 9223372036854775807 by unfold Big at hl; omega)
   have hw:=wrapN (z:=((n + 1 + 1:Nat):Int) - 1) (n:=n + 1) (by omega) (by omega)
   rw [mx_take ha]
   obtain ⟨kd',n',nm',k',xs'⟩:=a
   rw [Tm.av] at hc hget
   simp only [RS,RT,RZ,Zu,rA,rB,rC,rD,rE,rF,reduceCtorEq,Zw,l188_0,m188_0,t1,t2,t5,t6,hi,hget,hc,hw,hi2,hd,Tm.len,maxI]
  ·rintro T _ ⟨t1,t2,t5,t6,rfl⟩
   rw [List.take_length] at t5
   simp only [RS,RT,RZ,Zu,rA,rB,rC,rD,rE,rF,reduceCtorEq,Zw,l188_0,m188_0,t1,t2,t5,t6,Tm.len]
  ·simp only [RS,RT,RZ,Zu,rA,rB,rC,rD,rE,rF,reduceCtorEq,Zw,Tm.len,List.take_zero,mx,List.foldl_nil]
  ·rintro e T _ ⟨rfl,h1,h5,rfl⟩
   have hb:=mx_le (l:=xs.map (Tm.rd n)) (n:=n + 1) fun a ha => by obtain ⟨x,_,rfl⟩:=List.mem_map.1 ha; exact Tm.rd_le n x
   have hw:=wrapUp (show mx (xs.map (Tm.rd n)) < 9223372036854775807 by omega)
   have hm:min (mx (xs.map (Tm.rd n)) + 1) (n + 1 + 1) = mx (xs.map (Tm.rd n)) + 1:=by omega
   simp only [RS,RT,RZ,Zu,rA,rB,rC,rD,rE,rF,reduceCtorEq,Zw,h1,h5,Tm.rd,hw,minN,hm]
theorem depth134:∀ n:Nat,n ≤ 100 → ∀ t:Ty,t.Ok → Ret Q 134 [t.av,.int .i64 ((n + 1:Nat):Int)] (.int .i64 (t.rd n:Int)):=by
 intro n
 induction n with
 | zero =>
  rintro - ⟨nm,k,xs⟩ hok st
  refine callY (N:=32) (ok134 hK) (hK.nx _ _ _ rfl) rfl rfl ?_
  obtain ⟨_,_,hl,hoks⟩:=hok
  have e1:((0 + 1:Nat):Int) = 1:=rfl
  rw [e1]
  simp only [RS,RT,RZ,Zu,rA,rB,rC,rD,rE,rF,reduceCtorEq,Zw,x134,y134,F134,Ty.av,Ty.rd]
  refine post_bind (post_for (I:=fun i T st1 => i = 0 ∧ T 1 = .int .i64 1 ∧ T 2 = .ptr st.next 0 ∧ T 5 = .int .i64 0 ∧ T 6 = .int .i64 0 ∧ st1 = ⟨upd st.heap st.next (.mem 25 [.str nm,.slice k (Ty.avs xs)] true 0),st.next + 1,[]⟩)
   (Q:=fun e T st1 => e = .exit 0 ∧ T 1 = .int .i64 1 ∧ T 5 = .int .i64 0 ∧ st1 = ⟨upd st.heap st.next (.mem 25 [.str nm,.slice k (Ty.avs xs)] true 0),st.next + 1,[]⟩)
   xs.length ?_ ?_ (Nat.zero_le _) ?_) ?_
  ·rintro i T _ hi ⟨rfl,t1,t2,t5,t6,rfl⟩
   have hlt:=decT (show (0:Int) < (xs.length:Int) by omega)
   have h11:=decF (show ¬ (1:Int) < 1 by omega)
   simp only [RS,RT,RZ,Zu,rA,rB,rC,rD,rE,rF,reduceCtorEq,Zw,l134_0,m134_0,t1,t2,t5,t6,hlt,h11,Ty.len]
  ·rintro T _ ⟨hi,t1,t2,t5,t6,rfl⟩
   have hlt:=decF (show ¬ (0:Int) < (xs.length:Int) by omega)
   simp only [RS,RT,RZ,Zu,rA,rB,rC,rD,rE,rF,reduceCtorEq,Zw,l134_0,m134_0,t1,t2,t5,t6,hlt,Ty.len]
  ·simp only [RS,RT,RZ,Zu,rA,rB,rC,rD,rE,rF,reduceCtorEq,Zw,Ty.len]
  ·rintro e T _ ⟨rfl,h1,h5,rfl⟩
   simp only [RS,RT,RZ,Zu,rA,rB,rC,rD,rE,rF,reduceCtorEq,Zw,h1,h5]
   rw [if_neg (fun h => h)]; rfl
 | succ n ih =>
  rintro hn ⟨nm,k,xs⟩ hok st
  refine callY (N:=32) (ok134 hK) (hK.nx _ _ _ rfl) rfl rfl ?_
  obtain ⟨_,_,hl,hoks⟩:=hok
  have hd:=decT (show (1:Int) < ((n + 1 + 1:Nat):Int) by omega)
  simp only [RS,RT,RZ,Zu,rA,rB,rC,rD,rE,rF,reduceCtorEq,Zw,x134,y134,F134,Ty.av]
  refine post_bind (post_for (I:=fun i T st1 => T 1 = .int .i64 ((n + 1 + 1:Nat):Int) ∧ T 2 = .ptr st.next 0 ∧ T 5 = .int .i64 (mx ((xs.take i).map (Ty.rd n)):Int) ∧ T 6 = .int .i64 (i:Int) ∧
    st1 = ⟨upd st.heap st.next (.mem 25 [.str nm,.slice k (Ty.avs xs)] true 0),st.next + 1,[]⟩)
   (Q:=fun e T st1 => e = .exit 0 ∧ T 1 = .int .i64 ((n + 1 + 1:Nat):Int) ∧ T 5 = .int .i64 (mx (xs.map (Ty.rd n)):Int) ∧ st1 = ⟨upd st.heap st.next (.mem 25 [.str nm,.slice k (Ty.avs xs)] true 0),st.next + 1,[]⟩)
   xs.length ?_ ?_ (Nat.zero_le _) ?_) ?_
  ·rintro i T _ hi ⟨t1,t2,t5,t6,rfl⟩
   obtain ⟨a,ha⟩:∃ a,xs[i]? = some a:=⟨_,List.getElem?_eq_getElem hi⟩
   have ham:=List.mem_of_getElem? ha
   have hget:=Ty.get ha
   have hc:=ih (by omega) a (Ty.oks hoks _ ham)
   have hi2:=wrapUp (show i < 9223372036854775807 by unfold Big at hl; omega)
   have hw:=wrapN (z:=((n + 1 + 1:Nat):Int) - 1) (n:=n + 1) (by omega) (by omega)
   rw [mx_take ha]
   obtain ⟨nm',k',xs'⟩:=a
   rw [Ty.av] at hc hget
   simp only [RS,RT,RZ,Zu,rA,rB,rC,rD,rE,rF,reduceCtorEq,Zw,l134_0,m134_0,t1,t2,t5,t6,hi,hget,hc,hw,hi2,hd,Ty.len,maxI]
  ·rintro T _ ⟨t1,t2,t5,t6,rfl⟩
   rw [List.take_length] at t5
   simp only [RS,RT,RZ,Zu,rA,rB,rC,rD,rE,rF,reduceCtorEq,Zw,l134_0,m134_0,t1,t2,t5,t6,Ty.len]
  ·simp only [RS,RT,RZ,Zu,rA,rB,rC,rD,rE,rF,reduceCtorEq,Zw,Ty.len,List.take_zero,mx,List.foldl_nil]
  ·rintro e T _ ⟨rfl,h1,h5,rfl⟩
   have hb:=mx_le (l:=xs.map (Ty.rd n)) (n:=n + 1) fun a ha => by obtain ⟨x,_,rfl⟩:=List.mem_map.1 ha; exact Ty.rd_le n x
   have hw:=wrapUp (show mx (xs.map (Ty.rd n)) < 9223372036854775807 by omega)
   have hm:min (mx (xs.map (Ty.rd n)) + 1) (n + 1 + 1) = mx (xs.map (Ty.rd n)) + 1:=by omega
   simp only [RS,RT,RZ,Zu,rA,rB,rC,rD,rE,rF,reduceCtorEq,Zw,h1,h5,Ty.rd,hw,minN,hm]
theorem nodes117:∀ r:Nat,r ≤ 100 → ∀ t:Tm,t.Ok → ∀ n:Nat,n ≤ 4000 → Ret Q 117 [t.av,.int .i64 (n:Int),.int .i64 4000,.int .i64 ((r + 1:Nat):Int)] (.int .i64 ((min (n + t.nd r) 4001:Nat):Int)):=by
 intro r
 induction r with
 | zero =>
  rintro - ⟨kd,nn,nm,k,xs⟩ hok n hn st
  refine callY (N:=39) (ok117 hK) (hK.nx _ _ _ rfl) rfl rfl ?_
  obtain ⟨_,_,_,_,hl,hoks⟩:=hok
  have e1:((0 + 1:Nat):Int) = 1:=rfl
  have w1:=wrapUp (show n < 9223372036854775807 by omega)
  have hm:min (n + 1) 4001 = n + 1:=by omega
  rw [e1]
  simp only [RS,RT,RZ,Zu,rA,rB,rC,rD,rE,rF,reduceCtorEq,Zw,x117,y117,F117,Tm.av,Tm.nd,w1,hm]
  refine post_bind (post_for (I:=fun i T st1 => i = 0 ∧ T 1 = .int .i64 ((n + 1:Nat):Int) ∧ T 2 = .int .i64 4000 ∧ T 3 = .int .i64 1 ∧ T 4 = .ptr st.next 0 ∧ T 9 = .int .i64 0 ∧ st1 = ⟨upd st.heap st.next (.mem 39 [.int .i64 kd,.int .i64 nn,.str nm,.slice k (Tm.avs xs)] true 0),st.next + 1,[]⟩)
   (Q:=fun e T st1 => e = .exit 0 ∧ T 1 = .int .i64 ((n + 1:Nat):Int) ∧ st1 = ⟨upd st.heap st.next (.mem 39 [.int .i64 kd,.int .i64 nn,.str nm,.slice k (Tm.avs xs)] true 0),st.next + 1,[]⟩)
   xs.length ?_ ?_ (Nat.zero_le _) ?_) ?_
  ·rintro i T _ hi ⟨rfl,t1,t2,t3,t4,t9,rfl⟩
   have hlt:=decT (show (0:Int) < (xs.length:Int) by omega)
   have h11:=decF (show ¬ (1:Int) < 1 by omega)
   cases hd:decide (((n + 1:Nat):Int) ≤ 4000) with
   | true => simp only [RS,RT,RZ,Zu,rA,rB,rC,rD,rE,rF,reduceCtorEq,Zw,l117_0,m117_0,t1,t2,t3,t4,t9,hlt,h11,hd,Tm.len]
   | false => simp only [RS,RT,RZ,Zu,rA,rB,rC,rD,rE,rF,reduceCtorEq,Zw,l117_0,m117_0,t1,t2,t3,t4,t9,hlt,h11,hd,Tm.len]
  ·rintro T _ ⟨hi,t1,t2,t3,t4,t9,rfl⟩
   have hlt:=decF (show ¬ (0:Int) < (xs.length:Int) by omega)
   simp only [RS,RT,RZ,Zu,rA,rB,rC,rD,rE,rF,reduceCtorEq,Zw,l117_0,m117_0,t1,t2,t3,t4,t9,hlt,Tm.len]
  ·simp only [RS,RT,RZ,Zu,rA,rB,rC,rD,rE,rF,reduceCtorEq,Zw,Tm.len]
  ·rintro e T _ ⟨rfl,h1,rfl⟩
   simp only [RS,RT,RZ,Zu,rA,rB,rC,rD,rE,rF,reduceCtorEq,Zw,h1]
 | succ r ih =>
  rintro hr ⟨kd,nn,nm,k,xs⟩ hok n hn st
  refine callY (N:=39) (ok117 hK) (hK.nx _ _ _ rfl) rfl rfl ?_
  obtain ⟨_,_,_,_,hl,hoks⟩:=hok
  have w1:=wrapUp (show n < 9223372036854775807 by omega)
  have hd:=decT (show (1:Int) < ((r + 1 + 1:Nat):Int) by omega)
  simp only [RS,RT,RZ,Zu,rA,rB,rC,rD,rE,rF,reduceCtorEq,Zw,x117,y117,F117,Tm.av,Tm.nd,w1,Tm.xs]
  refine post_bind (post_for (I:=fun i T st1 => T 1 = .int .i64 ((min (n + (1 + ((xs.take i).map (Tm.nd r)).sum)) 4001:Nat):Int) ∧ T 2 = .int .i64 4000 ∧ T 3 = .int .i64 ((r + 1 + 1:Nat):Int) ∧ T 4 = .ptr st.next 0 ∧ T 9 = .int .i64 (i:Int) ∧
    st1 = ⟨upd st.heap st.next (.mem 39 [.int .i64 kd,.int .i64 nn,.str nm,.slice k (Tm.avs xs)] true 0),st.next + 1,[]⟩)
   (Q:=fun e T st1 => e = .exit 0 ∧ T 1 = .int .i64 ((min (n + (1 + (xs.map (Tm.nd r)).sum)) 4001:Nat):Int) ∧ st1 = ⟨upd st.heap st.next (.mem 39 [.int .i64 kd,.int .i64 nn,.str nm,.slice k (Tm.avs xs)] true 0),st.next + 1,[]⟩)
   xs.length ?_ ?_ (Nat.zero_le _) ?_) ?_
  ·rintro i T _ hi ⟨t1,t2,t3,t4,t9,rfl⟩
   obtain ⟨a,ha⟩:∃ a,xs[i]? = some a:=⟨_,List.getElem?_eq_getElem hi⟩
   have ham:=List.mem_of_getElem? ha
   have hget:=Tm.get ha
   have hi2:=wrapUp (show i < 9223372036854775807 by unfold Big at hl; omega)
   have hw:=wrapN (z:=((r + 1 + 1:Nat):Int) - 1) (n:=r + 1) (by omega) (by omega)
   have hlt:=decT (show (i:Int) < (xs.length:Int) by omega)
   have hsum:=take_sum (g:=Tm.nd r) ha
   have hle:=take_le (g:=Tm.nd r) xs i
   rw [hsum]
   obtain ⟨s,hs⟩:∃ s,s = ((xs.take i).map (Tm.nd r)).sum:=⟨_,rfl⟩
   rw [← hs] at t1 hle ⊢
   by_cases hk:n + (1 + s) ≤ 4000
   ·rw [show min (n + (1 + s)) 4001 = n + (1 + s) by omega] at t1
    have hc:=ih (by omega) a (Tm.oks hoks _ ham) (n + (1 + s)) hk
    have hdk:=decT (show ((n + (1 + s):Nat):Int) ≤ 4000 by omega)
    rw [show n + (1 + s) + a.nd r = n + (1 + (s + a.nd r)) by omega] at hc
    obtain ⟨kd',n',nm',k',xs'⟩:=a
    rw [Tm.av] at hc hget
    simp only [RS,RT,RZ,Zu,rA,rB,rC,rD,rE,rF,reduceCtorEq,Zw,l117_0,m117_0,t1,t2,t3,t4,t9,hi,hget,hc,hw,hi2,hd,hdk,hlt,Tm.len]
   ·rw [show min (n + (1 + s)) 4001 = 4001 by omega] at t1
    have hdk:=decF (show ¬ ((4001:Nat):Int) ≤ 4000 by omega)
    have hx:min (n + (1 + (xs.map (Tm.nd r)).sum)) 4001 = 4001:=by omega
    rw [show ((4001:Nat):Int) = 4001 from rfl] at t1 hdk
    simp only [RS,RT,RZ,Zu,rA,rB,rC,rD,rE,rF,reduceCtorEq,Zw,l117_0,m117_0,t1,t2,t3,t4,t9,hi,hget,hw,hi2,hd,hdk,hlt,hx,Tm.len]
    rfl
  ·rintro T _ ⟨t1,t2,t3,t4,t9,rfl⟩
   rw [List.take_length] at t1
   simp only [RS,RT,RZ,Zu,rA,rB,rC,rD,rE,rF,reduceCtorEq,Zw,l117_0,m117_0,t1,t2,t3,t4,t9,Tm.len]
  ·have hx:min (n + 1) 4001 = n + 1:=by omega
   simp only [RS,RT,RZ,Zu,rA,rB,rC,rD,rE,rF,reduceCtorEq,Zw,Tm.len,List.take_zero,List.sum_nil,Nat.add_zero,hx]
  ·rintro e T _ ⟨rfl,h1,rfl⟩
   simp only [RS,RT,RZ,Zu,rA,rB,rC,rD,rE,rF,reduceCtorEq,Zw,h1]
theorem nodes133:∀ r:Nat,r ≤ 100 → ∀ t:Ty,t.Ok → ∀ n:Nat,n ≤ 4000 → Ret Q 133 [t.av,.int .i64 (n:Int),.int .i64 4000,.int .i64 ((r + 1:Nat):Int)] (.int .i64 ((min (n + t.nd r) 4001:Nat):Int)):=by
 intro r
 induction r with
 | zero =>
  rintro - ⟨nm,k,xs⟩ hok n hn st
  refine callY (N:=39) (ok133 hK) (hK.nx _ _ _ rfl) rfl rfl ?_
  obtain ⟨_,_,hl,hoks⟩:=hok
  have e1:((0 + 1:Nat):Int) = 1:=rfl
  have w1:=wrapUp (show n < 9223372036854775807 by omega)
  have hm:min (n + 1) 4001 = n + 1:=by omega
  rw [e1]
  simp only [RS,RT,RZ,Zu,rA,rB,rC,rD,rE,rF,reduceCtorEq,Zw,x133,y133,F133,Ty.av,Ty.nd,w1,hm]
  refine post_bind (post_for (I:=fun i T st1 => i = 0 ∧ T 1 = .int .i64 ((n + 1:Nat):Int) ∧ T 2 = .int .i64 4000 ∧ T 3 = .int .i64 1 ∧ T 4 = .ptr st.next 0 ∧ T 9 = .int .i64 0 ∧ st1 = ⟨upd st.heap st.next (.mem 25 [.str nm,.slice k (Ty.avs xs)] true 0),st.next + 1,[]⟩)
   (Q:=fun e T st1 => e = .exit 0 ∧ T 1 = .int .i64 ((n + 1:Nat):Int) ∧ st1 = ⟨upd st.heap st.next (.mem 25 [.str nm,.slice k (Ty.avs xs)] true 0),st.next + 1,[]⟩)
   xs.length ?_ ?_ (Nat.zero_le _) ?_) ?_
  ·rintro i T _ hi ⟨rfl,t1,t2,t3,t4,t9,rfl⟩
   have hlt:=decT (show (0:Int) < (xs.length:Int) by omega)
   have h11:=decF (show ¬ (1:Int) < 1 by omega)
   cases hd:decide (((n + 1:Nat):Int) ≤ 4000) with
   | true => simp only [RS,RT,RZ,Zu,rA,rB,rC,rD,rE,rF,reduceCtorEq,Zw,l133_0,m133_0,t1,t2,t3,t4,t9,hlt,h11,hd,Ty.len]
   | false => simp only [RS,RT,RZ,Zu,rA,rB,rC,rD,rE,rF,reduceCtorEq,Zw,l133_0,m133_0,t1,t2,t3,t4,t9,hlt,h11,hd,Ty.len]
  ·rintro T _ ⟨hi,t1,t2,t3,t4,t9,rfl⟩
   have hlt:=decF (show ¬ (0:Int) < (xs.length:Int) by omega)
   simp only [RS,RT,RZ,Zu,rA,rB,rC,rD,rE,rF,reduceCtorEq,Zw,l133_0,m133_0,t1,t2,t3,t4,t9,hlt,Ty.len]
  ·simp only [RS,RT,RZ,Zu,rA,rB,rC,rD,rE,rF,reduceCtorEq,Zw,Ty.len]
  ·rintro e T _ ⟨rfl,h1,rfl⟩
   simp only [RS,RT,RZ,Zu,rA,rB,rC,rD,rE,rF,reduceCtorEq,Zw,h1]
 | succ r ih =>
  rintro hr ⟨nm,k,xs⟩ hok n hn st
  refine callY (N:=39) (ok133 hK) (hK.nx _ _ _ rfl) rfl rfl ?_
  obtain ⟨_,_,hl,hoks⟩:=hok
  have w1:=wrapUp (show n < 9223372036854775807 by omega)
  have hd:=decT (show (1:Int) < ((r + 1 + 1:Nat):Int) by omega)
  simp only [RS,RT,RZ,Zu,rA,rB,rC,rD,rE,rF,reduceCtorEq,Zw,x133,y133,F133,Ty.av,Ty.nd,w1,Ty.xs]
  refine post_bind (post_for (I:=fun i T st1 => T 1 = .int .i64 ((min (n + (1 + ((xs.take i).map (Ty.nd r)).sum)) 4001:Nat):Int) ∧ T 2 = .int .i64 4000 ∧ T 3 = .int .i64 ((r + 1 + 1:Nat):Int) ∧ T 4 = .ptr st.next 0 ∧ T 9 = .int .i64 (i:Int) ∧
    st1 = ⟨upd st.heap st.next (.mem 25 [.str nm,.slice k (Ty.avs xs)] true 0),st.next + 1,[]⟩)
   (Q:=fun e T st1 => e = .exit 0 ∧ T 1 = .int .i64 ((min (n + (1 + (xs.map (Ty.nd r)).sum)) 4001:Nat):Int) ∧ st1 = ⟨upd st.heap st.next (.mem 25 [.str nm,.slice k (Ty.avs xs)] true 0),st.next + 1,[]⟩)
   xs.length ?_ ?_ (Nat.zero_le _) ?_) ?_
  ·rintro i T _ hi ⟨t1,t2,t3,t4,t9,rfl⟩
   obtain ⟨a,ha⟩:∃ a,xs[i]? = some a:=⟨_,List.getElem?_eq_getElem hi⟩
   have ham:=List.mem_of_getElem? ha
   have hget:=Ty.get ha
   have hi2:=wrapUp (show i < 9223372036854775807 by unfold Big at hl; omega)
   have hw:=wrapN (z:=((r + 1 + 1:Nat):Int) - 1) (n:=r + 1) (by omega) (by omega)
   have hlt:=decT (show (i:Int) < (xs.length:Int) by omega)
   have hsum:=take_sum (g:=Ty.nd r) ha
   have hle:=take_le (g:=Ty.nd r) xs i
   rw [hsum]
   obtain ⟨s,hs⟩:∃ s,s = ((xs.take i).map (Ty.nd r)).sum:=⟨_,rfl⟩
   rw [← hs] at t1 hle ⊢
   by_cases hk:n + (1 + s) ≤ 4000
   ·rw [show min (n + (1 + s)) 4001 = n + (1 + s) by omega] at t1
    have hc:=ih (by omega) a (Ty.oks hoks _ ham) (n + (1 + s)) hk
    have hdk:=decT (show ((n + (1 + s):Nat):Int) ≤ 4000 by omega)
    rw [show n + (1 + s) + a.nd r = n + (1 + (s + a.nd r)) by omega] at hc
    obtain ⟨nm',k',xs'⟩:=a
    rw [Ty.av] at hc hget
    simp only [RS,RT,RZ,Zu,rA,rB,rC,rD,rE,rF,reduceCtorEq,Zw,l133_0,m133_0,t1,t2,t3,t4,t9,hi,hget,hc,hw,hi2,hd,hdk,hlt,Ty.len]
   ·rw [show min (n + (1 + s)) 4001 = 4001 by omega] at t1
    have hdk:=decF (show ¬ ((4001:Nat):Int) ≤ 4000 by omega)
    have hx:min (n + (1 + (xs.map (Ty.nd r)).sum)) 4001 = 4001:=by omega
    rw [show ((4001:Nat):Int) = 4001 from rfl] at t1 hdk
    simp only [RS,RT,RZ,Zu,rA,rB,rC,rD,rE,rF,reduceCtorEq,Zw,l133_0,m133_0,t1,t2,t3,t4,t9,hi,hget,hw,hi2,hd,hdk,hlt,hx,Ty.len]
    rfl
  ·rintro T _ ⟨t1,t2,t3,t4,t9,rfl⟩
   rw [List.take_length] at t1
   simp only [RS,RT,RZ,Zu,rA,rB,rC,rD,rE,rF,reduceCtorEq,Zw,l133_0,m133_0,t1,t2,t3,t4,t9,Ty.len]
  ·have hx:min (n + 1) 4001 = n + 1:=by omega
   simp only [RS,RT,RZ,Zu,rA,rB,rC,rD,rE,rF,reduceCtorEq,Zw,Ty.len,List.take_zero,List.sum_nil,Nat.add_zero,hx]
  ·rintro e T _ ⟨rfl,h1,rfl⟩
   simp only [RS,RT,RZ,Zu,rA,rB,rC,rD,rE,rF,reduceCtorEq,Zw,h1]
theorem deep42:∀ n:Nat,n ≤ 100 → ∀ f:Fo,f.Ok → Ret Q 42 [f.av,.int .i64 (n:Int)] (.int .i64 (f.rd n:Int)):=by
 intro n
 induction n with
 | zero =>
  rintro - ⟨kd,nm,ka,xs,ty,kl,ls⟩ hok st
  refine callY (N:=52) (ok42 hK) (hK.nx _ _ _ rfl) rfl rfl ?_
  obtain ⟨_,_,_,hl,hoks,_,_,hl2,hoks2⟩:=hok
  have e1:((0:Nat):Int) = 0:=rfl
  have h00:=decF (show ¬ (0:Int) < 0 by omega)
  rw [e1]
  simp only [RS,RT,RZ,Zu,rA,rB,rC,rD,rE,rF,reduceCtorEq,Zw,x42,y42,F42,Fo.av,Fo.rd]
  obtain ⟨b0,hb0⟩:∃ b0:St,b0 = ⟨upd st.heap st.next (.mem 28 [.int .i64 kd,.str nm,.slice ka (Tm.avs xs),.str ty.nm,.slice ty.k (Ty.avs ty.xs),.slice kl (Fo.avs ls)] true 0),st.next + 1,[]⟩:=⟨_,rfl⟩
  refine post_bind (post_for (I:=fun i T st1 => i = 0 ∧ T 1 = .int .i64 0 ∧ T 2 = .ptr st.next 0 ∧ T 5 = .int .i64 0 ∧ T 6 = .int .i64 0 ∧ st1 = b0)
   (Q:=fun e T st1 => e = .exit 0 ∧ T 1 = .int .i64 0 ∧ T 2 = .ptr st.next 0 ∧ T 5 = .int .i64 0 ∧ st1 = b0)
   xs.length ?_ ?_ (Nat.zero_le _) ?_) ?_
  ·rintro i T _ hi ⟨rfl,t1,t2,t5,t6,rfl⟩
   rw [hb0]
   have hlt:=decT (show (0:Int) < (xs.length:Int) by omega)
   simp only [RS,RT,RZ,Zu,rA,rB,rC,rD,rE,rF,reduceCtorEq,Zw,l42_0,m42_0,t1,t2,t5,t6,hlt,h00,Tm.len]
  ·rintro T _ ⟨hi,t1,t2,t5,t6,rfl⟩
   rw [hb0]
   have hlt:=decF (show ¬ (0:Int) < (xs.length:Int) by omega)
   simp only [RS,RT,RZ,Zu,rA,rB,rC,rD,rE,rF,reduceCtorEq,Zw,l42_0,m42_0,t1,t2,t5,t6,hlt,Tm.len]
  ·simp only [RS,RT,RZ,Zu,rA,rB,rC,rD,rE,rF,reduceCtorEq,Zw,Tm.len,hb0]
  ·rintro e T st1 ⟨rfl,h1,h2,h5,hs1⟩
   rw [hs1]
   simp only [RS,RT,RZ,Zu,rA,rB,rC,rD,rE,rF,reduceCtorEq,Zw,h1,h2,h5]
   refine post_bind (post_for (I:=fun i T st1 => i = 0 ∧ T 1 = .int .i64 0 ∧ T 2 = .ptr st.next 0 ∧ T 5 = .int .i64 0 ∧ T 7 = .int .i64 0 ∧ st1 = b0)
    (Q:=fun e T st1 => e = .exit 2 ∧ T 5 = .int .i64 0 ∧ st1 = b0)
    ls.length ?_ ?_ (Nat.zero_le _) ?_) ?_
   ·rintro i T _ hi ⟨rfl,t1,t2,t5,t7,rfl⟩
    rw [hb0]
    have hlt:=decT (show (0:Int) < (ls.length:Int) by omega)
    simp only [RS,RT,RZ,Zu,rA,rB,rC,rD,rE,rF,reduceCtorEq,Zw,l42_1,m42_1,t1,t2,t5,t7,hlt,h00,Fo.len]
   ·rintro T _ ⟨hi,t1,t2,t5,t7,rfl⟩
    rw [hb0]
    have hlt:=decF (show ¬ (0:Int) < (ls.length:Int) by omega)
    simp only [RS,RT,RZ,Zu,rA,rB,rC,rD,rE,rF,reduceCtorEq,Zw,l42_1,m42_1,t1,t2,t5,t7,hlt,Fo.len]
   ·simp only [RS,RT,RZ,Zu,rA,rB,rC,rD,rE,rF,reduceCtorEq,Zw,Fo.len,h1,h2,h5]
   ·rintro e T _ ⟨rfl,h5,rfl⟩
    rw [hb0]
    simp only [RS,RT,RZ,Zu,rA,rB,rC,rD,rE,rF,reduceCtorEq,Zw,h5]
    rfl
 | succ n ih =>
  rintro hn ⟨kd,nm,ka,xs,ty,kl,ls⟩ hok st
  refine callY (N:=52) (ok42 hK) (hK.nx _ _ _ rfl) rfl rfl ?_
  obtain ⟨_,_,_,hl,hoks,_,_,hl2,hoks2⟩:=hok
  have hd:=decT (show (0:Int) < ((n + 1:Nat):Int) by omega)
  have hd':=decT (show 0 < n + 1 by omega)
  have hw:=wrapN (z:=((n + 1:Nat):Int) - 1) (n:=n) (by omega) (by omega)
  simp only [RS,RT,RZ,Zu,rA,rB,rC,rD,rE,rF,reduceCtorEq,Zw,x42,y42,F42,Fo.av]
  obtain ⟨b0,hb0⟩:∃ b0:St,b0 = ⟨upd st.heap st.next (.mem 28 [.int .i64 kd,.str nm,.slice ka (Tm.avs xs),.str ty.nm,.slice ty.k (Ty.avs ty.xs),.slice kl (Fo.avs ls)] true 0),st.next + 1,[]⟩:=⟨_,rfl⟩
  refine post_bind (post_for (I:=fun i T st1 => T 1 = .int .i64 ((n + 1:Nat):Int) ∧ T 2 = .ptr st.next 0 ∧ T 5 = .int .i64 (mx ((xs.take i).map (Tm.rd (n + 1))):Int) ∧ T 6 = .int .i64 (i:Int) ∧ st1 = b0)
   (Q:=fun e T st1 => e = .exit 0 ∧ T 1 = .int .i64 ((n + 1:Nat):Int) ∧ T 2 = .ptr st.next 0 ∧ T 5 = .int .i64 (mx (xs.map (Tm.rd (n + 1))):Int) ∧ st1 = b0)
   xs.length ?_ ?_ (Nat.zero_le _) ?_) ?_
  ·rintro i T _ hi ⟨t1,t2,t5,t6,rfl⟩
   rw [hb0]
   obtain ⟨a,ha⟩:∃ a,xs[i]? = some a:=⟨_,List.getElem?_eq_getElem hi⟩
   have ham:=List.mem_of_getElem? ha
   have hget:=Tm.get ha
   have hc:=deep97 hK (n + 1) hn a (Tm.oks hoks _ ham)
   rw [show ((n + 1:Nat):Int) - 1 = (n:Int) by omega] at hc
   have hi2:=wrapUp (show i < 9223372036854775807 by unfold Big at hl; omega)
   rw [mx_take ha]
   obtain ⟨kd',n',nm',k',xs'⟩:=a
   rw [Tm.av] at hc hget
   simp only [RS,RT,RZ,Zu,rA,rB,rC,rD,rE,rF,reduceCtorEq,Zw,l42_0,m42_0,t1,t2,t5,t6,hi,hget,hc,hw,hi2,hd,hd',Tm.len,maxI]
  ·rintro T _ ⟨t1,t2,t5,t6,rfl⟩
   rw [hb0]
   rw [List.take_length] at t5
   simp only [RS,RT,RZ,Zu,rA,rB,rC,rD,rE,rF,reduceCtorEq,Zw,l42_0,m42_0,t1,t2,t5,t6,Tm.len]
  ·simp only [RS,RT,RZ,Zu,rA,rB,rC,rD,rE,rF,reduceCtorEq,Zw,Tm.len,List.take_zero,mx,List.foldl_nil,hb0]
  ·rintro e T st1 ⟨rfl,h1,h2,h5,hs1⟩
   rw [hs1]
   simp only [RS,RT,RZ,Zu,rA,rB,rC,rD,rE,rF,reduceCtorEq,Zw,h1,h2,h5]
   refine post_bind (post_for (I:=fun i T st1 => T 1 = .int .i64 ((n + 1:Nat):Int) ∧ T 2 = .ptr st.next 0 ∧ T 5 = .int .i64 ((max (mx (xs.map (Tm.rd (n + 1)))) (mx ((ls.take i).map (Fo.rd n))):Nat):Int) ∧ T 7 = .int .i64 (i:Int) ∧ st1 = b0)
    (Q:=fun e T st1 => e = .exit 2 ∧ T 5 = .int .i64 ((max (mx (xs.map (Tm.rd (n + 1)))) (mx (ls.map (Fo.rd n))):Nat):Int) ∧ st1 = b0)
    ls.length ?_ ?_ (Nat.zero_le _) ?_) ?_
   ·rintro i T _ hi ⟨t1,t2,t5,t7,rfl⟩
    rw [hb0]
    obtain ⟨a,ha⟩:∃ a,ls[i]? = some a:=⟨_,List.getElem?_eq_getElem hi⟩
    have ham:=List.mem_of_getElem? ha
    have hget:=Fo.get ha
    have hc:=ih (by omega) a (Fo.oks hoks2 _ ham)
    have hi2:=wrapUp (show i < 9223372036854775807 by unfold Big at hl2; omega)
    rw [mx_take ha,← Nat.max_assoc]
    obtain ⟨kd',nm',ka',xs',ty',kl',ls'⟩:=a
    rw [Fo.av] at hc hget
    simp only [RS,RT,RZ,Zu,rA,rB,rC,rD,rE,rF,reduceCtorEq,Zw,l42_1,m42_1,t1,t2,t5,t7,hi,hget,hc,hw,hi2,hd,hd',Fo.len,maxI]
   ·rintro T _ ⟨t1,t2,t5,t7,rfl⟩
    rw [hb0]
    rw [List.take_length] at t5
    simp only [RS,RT,RZ,Zu,rA,rB,rC,rD,rE,rF,reduceCtorEq,Zw,l42_1,m42_1,t1,t2,t5,t7,Fo.len]
   ·have hm0:max (mx (xs.map (Tm.rd (n + 1)))) 0 = mx (xs.map (Tm.rd (n + 1))):=by omega
    simp only [RS,RT,RZ,Zu,rA,rB,rC,rD,rE,rF,reduceCtorEq,Zw,Fo.len,List.take_zero,h1,h2,h5,mx_nil,hm0]
   ·rintro e T _ ⟨rfl,h5,rfl⟩
    rw [hb0]
    have hb1:=mx_le (l:=xs.map (Tm.rd (n + 1))) (n:=n + 2) fun a ha => by obtain ⟨x,_,rfl⟩:=List.mem_map.1 ha; exact Tm.rd_le _ x
    have hb2:=mx_le (l:=ls.map (Fo.rd n)) (n:=n + 2) fun a ha => by obtain ⟨x,_,rfl⟩:=List.mem_map.1 ha; exact Fo.rd_le n x
    have hw:=wrapUp (show max (mx (xs.map (Tm.rd (n + 1)))) (mx (ls.map (Fo.rd n))) < 9223372036854775807 by omega)
    simp only [RS,RT,RZ,Zu,rA,rB,rC,rD,rE,rF,reduceCtorEq,Zw,h5,Fo.rd,hw]
theorem depth127 {t:Tm} (hok:t.Ok):Ret Q 127 [t.av] (.int .i64 (t.rd 100:Int)):=fun st => by
 refine callY (N:=5) (ok127 hK) (hK.nx _ _ _ rfl) rfl rfl ?_
 have hc:=depth188 hK 100 (Nat.le_refl _) t hok
 rw [show ((100 + 1:Nat):Int) = 101 from rfl] at hc
 obtain ⟨kd,nn,nm,k,xs⟩:=t
 rw [Tm.av] at hc ⊢
 simp only [RS,RT,RZ,Zu,rA,rB,rC,rD,rE,rF,reduceCtorEq,Zw,x127,F127,hc]
end
end Go.Proofs.L06

namespace Go.Proofs.L06
open Go Go.AE
open Nat renaming reduceLT → rA,reduceLeDiff → rB,reduceEqDiff → rC,reduceMul → rD,reduceAdd → rE,reduceSub → rF
set_option maxHeartbeats 8000000
section
variable {Q:Ctx} (hK:K Q)
include hK
theorem loop128 {xs:List Tm} {kd nn:Int} {nm:List Nat} {k:SK} {p:Nat} (hl:xs.length < Big) (hoks:Tm.Oks xs) (ih:∀ a ∈ xs,a.Ok → Ret Q 128 [a.av] (.bool a.shp)) {T0:Nat → AV} {st0:St}
  (h1:T0 1 = .ptr p 0) (h3:T0 3 = .int .i64 0) (hp:st0.heap p = .mem 39 [.int .i64 kd,.int .i64 nn,.str nm,.slice k (Tm.avs xs)] true 0) :
  Post 68 [] none (execY (callW Q) Q false 128 none (.loop l128_0) ⟨T0,68,[],none⟩ st0) fun e T st1 => st1 = st0 ∧ ((e = .exit 1 ∧ Tm.shps xs = true) ∨ (e = .ret ∧ T 2 = .bool false ∧ Tm.shps xs = false)):=by
 refine post_for (I:=fun i T st1 => T 1 = .ptr p 0 ∧ T 3 = .int .i64 (i:Int) ∧ st1 = st0 ∧ (xs.drop i).all Tm.shp = Tm.shps xs) xs.length ?_ ?_ (Nat.zero_le _) ?_
 ·rintro i T _ hi ⟨t1,t3,rfl,hr⟩
  obtain ⟨a,ha⟩:∃ a,xs[i]? = some a:=⟨_,List.getElem?_eq_getElem hi⟩
  have ham:=List.mem_of_getElem? ha
  have hget:=Tm.get ha
  have hc:=ih a ham (Tm.oks hoks _ ham)
  have hi2:=wrapUp (show i < 9223372036854775807 by unfold Big at hl; omega)
  rw [drop_cons ha,List.all_cons] at hr
  cases hb:a.shp with
  | true =>
   rw [hb,Bool.true_and] at hr
   rw [hb] at hc
   obtain ⟨kd',n',nm',k',xs'⟩:=a
   rw [Tm.av] at hc hget
   simp only [RS,RT,RZ,Zu,rA,rB,rC,rD,rE,rF,reduceCtorEq,Zw,l128_0,m128_0,t1,t3,hp,hi,hget,hc,hi2,Tm.len,hr]
  | false =>
   rw [hb,Bool.false_and] at hr
   rw [hb] at hc
   obtain ⟨kd',n',nm',k',xs'⟩:=a
   rw [Tm.av] at hc hget
   simp only [RS,RT,RZ,Zu,rA,rB,rC,rD,rE,rF,reduceCtorEq,Zw,l128_0,m128_0,t1,t3,hp,hi,hget,hc,hi2,Tm.len,hr.symm]
 ·rintro T _ ⟨t1,t3,rfl,hr⟩
  rw [List.drop_length,List.all_nil] at hr
  simp only [RS,RT,RZ,Zu,rA,rB,rC,rD,rE,rF,reduceCtorEq,Zw,l128_0,m128_0,t1,t3,hp,Tm.len,hr.symm]
 ·rw [List.drop_zero,Tm.shps_all]
  exact ⟨h1,h3,rfl,rfl⟩
theorem shaped128 (t:Tm):t.Ok → Ret Q 128 [t.av] (.bool t.shp):=by
 induction t using Tm.ind with
 | _ kd nn nm k xs ih =>
 intro hok st
 refine callY (N:=68) (ok128 hK) (hK.nx _ _ _ rfl) rfl rfl ?_
 obtain ⟨_,_,hs,_,hl,hoks⟩:=hok
 have hn:=risName_c hK hs
 rw [Tm.av,Tm.shp]
 by_cases h1:kd = 1
 ·subst h1
  rw [show nodeT 1 nn nm xs.length = ((nn == 0) && (chk1 1 nm && decide ((xs.length:Int) ≤ 8))) from rfl]
  cases e2:(nn == (0:Int)) with
  | false =>
   have e2':=bneI e2
   simp only [RS,RT,RZ,Zu,rA,rB,rC,rD,rE,rF,reduceCtorEq,Zw,x128,y128,F128,Tm.len,Int.reduceBEq,Int.reduceBNe,hn,Bool.false_and,Bool.true_and,Bool.and_false,Bool.and_true,Bool.true_or,Bool.false_or,Bool.or_true,Bool.or_false,e2,e2']
  | true =>
   have e2':=bneI e2
   cases e3:chk1 1 nm with
   | false =>
    have e3':=e3
    simp only [RS,RT,RZ,Zu,rA,rB,rC,rD,rE,rF,reduceCtorEq,Zw,x128,y128,F128,Tm.len,Int.reduceBEq,Int.reduceBNe,hn,Bool.false_and,Bool.true_and,Bool.and_false,Bool.and_true,Bool.true_or,Bool.false_or,Bool.or_true,Bool.or_false,e2,e2',e3,e3']
   | true =>
    have e3':=e3
    cases e4:decide ((xs.length:Int) ≤ 8) with
    | false =>
     have e4':=decT (show (8:Int) < (xs.length:Int) by simpa using e4)
     simp only [RS,RT,RZ,Zu,rA,rB,rC,rD,rE,rF,reduceCtorEq,Zw,x128,y128,F128,Tm.len,Int.reduceBEq,Int.reduceBNe,hn,Bool.false_and,Bool.true_and,Bool.and_false,Bool.and_true,Bool.true_or,Bool.false_or,Bool.or_true,Bool.or_false,e2,e2',e3,e3',e4,e4']
    | true =>
     have e4':=decF (show ¬ (8:Int) < (xs.length:Int) by simpa using e4)
     simp only [RS,RT,RZ,Zu,rA,rB,rC,rD,rE,rF,reduceCtorEq,Zw,x128,y128,F128,Tm.len,Int.reduceBEq,Int.reduceBNe,hn,Bool.false_and,Bool.true_and,Bool.and_false,Bool.and_true,Bool.true_or,Bool.false_or,Bool.or_true,Bool.or_false,e2,e2',e3,e3',e4,e4']
     refine post_bind (loop128 hK (p:=st.next) (kd:=1) (nn:=nn) (nm:=nm) (k:=k) hl hoks ih (by simp only [RS,RT,RZ,Zu,rA,rB,rC,rD,rE,rF,reduceCtorEq,Zw,]) (by simp only [RS,RT,RZ,Zu,rA,rB,rC,rD,rE,rF,reduceCtorEq,Zw,]) (by simp only [RS,RT,RZ,Zu,rA,rB,rC,rD,rE,rF,reduceCtorEq,Zw,])) ?_
     rintro e T st1 ⟨rfl,⟨rfl,h⟩ | ⟨rfl,h2,h⟩⟩
     ·simp only [RS,RT,RZ,Zu,rA,rB,rC,rD,rE,rF,reduceCtorEq,Zw,h]
     ·simp only [RS,RT,RZ,Zu,rA,rB,rC,rD,rE,rF,reduceCtorEq,Zw,h,h2]
 by_cases h2:kd = 2 ∨ kd = 3 ∨ kd = 4
 ·rw [show nodeT kd nn nm xs.length = (decide (0 ≤ nn) && (decide (nn ≤ 100000) && ((nm == []) && decide ((xs.length:Int) ≤ 8)))) by unfold nodeT; rw [if_neg h1,if_pos h2]]
  rcases h2 with rfl | rfl | rfl
  ·cases e2:decide ((0:Int) ≤ nn) with
   | false =>
    have e2':=decT (show nn < (0:Int) by simpa using e2)
    simp only [RS,RT,RZ,Zu,rA,rB,rC,rD,rE,rF,reduceCtorEq,Zw,x128,y128,F128,Tm.len,Int.reduceBEq,Int.reduceBNe,hn,Bool.false_and,Bool.true_and,Bool.and_false,Bool.and_true,Bool.true_or,Bool.false_or,Bool.or_true,Bool.or_false,e2,e2']
   | true =>
    have e2':=decF (show ¬ nn < (0:Int) by simpa using e2)
    cases e3:decide (nn ≤ (100000:Int)) with
    | false =>
     have e3':=decT (show (100000:Int) < nn by simpa using e3)
     simp only [RS,RT,RZ,Zu,rA,rB,rC,rD,rE,rF,reduceCtorEq,Zw,x128,y128,F128,Tm.len,Int.reduceBEq,Int.reduceBNe,hn,Bool.false_and,Bool.true_and,Bool.and_false,Bool.and_true,Bool.true_or,Bool.false_or,Bool.or_true,Bool.or_false,e2,e2',e3,e3']
    | true =>
     have e3':=decF (show ¬ (100000:Int) < nn by simpa using e3)
     cases e4:(nm == ([]:List Nat)) with
     | false =>
      have e4':=bne_ e4
      simp only [RS,RT,RZ,Zu,rA,rB,rC,rD,rE,rF,reduceCtorEq,Zw,x128,y128,F128,Tm.len,Int.reduceBEq,Int.reduceBNe,hn,Bool.false_and,Bool.true_and,Bool.and_false,Bool.and_true,Bool.true_or,Bool.false_or,Bool.or_true,Bool.or_false,e2,e2',e3,e3',e4,e4']
     | true =>
      have e4':=bne_ e4
      cases e5:decide ((xs.length:Int) ≤ 8) with
      | false =>
       have e5':=decT (show (8:Int) < (xs.length:Int) by simpa using e5)
       simp only [RS,RT,RZ,Zu,rA,rB,rC,rD,rE,rF,reduceCtorEq,Zw,x128,y128,F128,Tm.len,Int.reduceBEq,Int.reduceBNe,hn,Bool.false_and,Bool.true_and,Bool.and_false,Bool.and_true,Bool.true_or,Bool.false_or,Bool.or_true,Bool.or_false,e2,e2',e3,e3',e4,e4',e5,e5']
      | true =>
       have e5':=decF (show ¬ (8:Int) < (xs.length:Int) by simpa using e5)
       simp only [RS,RT,RZ,Zu,rA,rB,rC,rD,rE,rF,reduceCtorEq,Zw,x128,y128,F128,Tm.len,Int.reduceBEq,Int.reduceBNe,hn,Bool.false_and,Bool.true_and,Bool.and_false,Bool.and_true,Bool.true_or,Bool.false_or,Bool.or_true,Bool.or_false,e2,e2',e3,e3',e4,e4',e5,e5']
       refine post_bind (loop128 hK (p:=st.next) (kd:=2) (nn:=nn) (nm:=nm) (k:=k) hl hoks ih (by simp only [RS,RT,RZ,Zu,rA,rB,rC,rD,rE,rF,reduceCtorEq,Zw,]) (by simp only [RS,RT,RZ,Zu,rA,rB,rC,rD,rE,rF,reduceCtorEq,Zw,]) (by simp only [RS,RT,RZ,Zu,rA,rB,rC,rD,rE,rF,reduceCtorEq,Zw,])) ?_
       rintro e T st1 ⟨rfl,⟨rfl,h⟩ | ⟨rfl,h2,h⟩⟩
       ·simp only [RS,RT,RZ,Zu,rA,rB,rC,rD,rE,rF,reduceCtorEq,Zw,h]
       ·simp only [RS,RT,RZ,Zu,rA,rB,rC,rD,rE,rF,reduceCtorEq,Zw,h,h2]
  ·cases e2:decide ((0:Int) ≤ nn) with
   | false =>
    have e2':=decT (show nn < (0:Int) by simpa using e2)
    simp only [RS,RT,RZ,Zu,rA,rB,rC,rD,rE,rF,reduceCtorEq,Zw,x128,y128,F128,Tm.len,Int.reduceBEq,Int.reduceBNe,hn,Bool.false_and,Bool.true_and,Bool.and_false,Bool.and_true,Bool.true_or,Bool.false_or,Bool.or_true,Bool.or_false,e2,e2']
   | true =>
    have e2':=decF (show ¬ nn < (0:Int) by simpa using e2)
    cases e3:decide (nn ≤ (100000:Int)) with
    | false =>
     have e3':=decT (show (100000:Int) < nn by simpa using e3)
     simp only [RS,RT,RZ,Zu,rA,rB,rC,rD,rE,rF,reduceCtorEq,Zw,x128,y128,F128,Tm.len,Int.reduceBEq,Int.reduceBNe,hn,Bool.false_and,Bool.true_and,Bool.and_false,Bool.and_true,Bool.true_or,Bool.false_or,Bool.or_true,Bool.or_false,e2,e2',e3,e3']
    | true =>
     have e3':=decF (show ¬ (100000:Int) < nn by simpa using e3)
     cases e4:(nm == ([]:List Nat)) with
     | false =>
      have e4':=bne_ e4
      simp only [RS,RT,RZ,Zu,rA,rB,rC,rD,rE,rF,reduceCtorEq,Zw,x128,y128,F128,Tm.len,Int.reduceBEq,Int.reduceBNe,hn,Bool.false_and,Bool.true_and,Bool.and_false,Bool.and_true,Bool.true_or,Bool.false_or,Bool.or_true,Bool.or_false,e2,e2',e3,e3',e4,e4']
     | true =>
      have e4':=bne_ e4
      cases e5:decide ((xs.length:Int) ≤ 8) with
      | false =>
       have e5':=decT (show (8:Int) < (xs.length:Int) by simpa using e5)
       simp only [RS,RT,RZ,Zu,rA,rB,rC,rD,rE,rF,reduceCtorEq,Zw,x128,y128,F128,Tm.len,Int.reduceBEq,Int.reduceBNe,hn,Bool.false_and,Bool.true_and,Bool.and_false,Bool.and_true,Bool.true_or,Bool.false_or,Bool.or_true,Bool.or_false,e2,e2',e3,e3',e4,e4',e5,e5']
      | true =>
       have e5':=decF (show ¬ (8:Int) < (xs.length:Int) by simpa using e5)
       simp only [RS,RT,RZ,Zu,rA,rB,rC,rD,rE,rF,reduceCtorEq,Zw,x128,y128,F128,Tm.len,Int.reduceBEq,Int.reduceBNe,hn,Bool.false_and,Bool.true_and,Bool.and_false,Bool.and_true,Bool.true_or,Bool.false_or,Bool.or_true,Bool.or_false,e2,e2',e3,e3',e4,e4',e5,e5']
       refine post_bind (loop128 hK (p:=st.next) (kd:=3) (nn:=nn) (nm:=nm) (k:=k) hl hoks ih (by simp only [RS,RT,RZ,Zu,rA,rB,rC,rD,rE,rF,reduceCtorEq,Zw,]) (by simp only [RS,RT,RZ,Zu,rA,rB,rC,rD,rE,rF,reduceCtorEq,Zw,]) (by simp only [RS,RT,RZ,Zu,rA,rB,rC,rD,rE,rF,reduceCtorEq,Zw,])) ?_
       rintro e T st1 ⟨rfl,⟨rfl,h⟩ | ⟨rfl,h2,h⟩⟩
       ·simp only [RS,RT,RZ,Zu,rA,rB,rC,rD,rE,rF,reduceCtorEq,Zw,h]
       ·simp only [RS,RT,RZ,Zu,rA,rB,rC,rD,rE,rF,reduceCtorEq,Zw,h,h2]
  ·cases e2:decide ((0:Int) ≤ nn) with
   | false =>
    have e2':=decT (show nn < (0:Int) by simpa using e2)
    simp only [RS,RT,RZ,Zu,rA,rB,rC,rD,rE,rF,reduceCtorEq,Zw,x128,y128,F128,Tm.len,Int.reduceBEq,Int.reduceBNe,hn,Bool.false_and,Bool.true_and,Bool.and_false,Bool.and_true,Bool.true_or,Bool.false_or,Bool.or_true,Bool.or_false,e2,e2']
   | true =>
    have e2':=decF (show ¬ nn < (0:Int) by simpa using e2)
    cases e3:decide (nn ≤ (100000:Int)) with
    | false =>
     have e3':=decT (show (100000:Int) < nn by simpa using e3)
     simp only [RS,RT,RZ,Zu,rA,rB,rC,rD,rE,rF,reduceCtorEq,Zw,x128,y128,F128,Tm.len,Int.reduceBEq,Int.reduceBNe,hn,Bool.false_and,Bool.true_and,Bool.and_false,Bool.and_true,Bool.true_or,Bool.false_or,Bool.or_true,Bool.or_false,e2,e2',e3,e3']
    | true =>
     have e3':=decF (show ¬ (100000:Int) < nn by simpa using e3)
     cases e4:(nm == ([]:List Nat)) with
     | false =>
      have e4':=bne_ e4
      simp only [RS,RT,RZ,Zu,rA,rB,rC,rD,rE,rF,reduceCtorEq,Zw,x128,y128,F128,Tm.len,Int.reduceBEq,Int.reduceBNe,hn,Bool.false_and,Bool.true_and,Bool.and_false,Bool.and_true,Bool.true_or,Bool.false_or,Bool.or_true,Bool.or_false,e2,e2',e3,e3',e4,e4']
     | true =>
      have e4':=bne_ e4
      cases e5:decide ((xs.length:Int) ≤ 8) with
      | false =>
       have e5':=decT (show (8:Int) < (xs.length:Int) by simpa using e5)
       simp only [RS,RT,RZ,Zu,rA,rB,rC,rD,rE,rF,reduceCtorEq,Zw,x128,y128,F128,Tm.len,Int.reduceBEq,Int.reduceBNe,hn,Bool.false_and,Bool.true_and,Bool.and_false,Bool.and_true,Bool.true_or,Bool.false_or,Bool.or_true,Bool.or_false,e2,e2',e3,e3',e4,e4',e5,e5']
      | true =>
       have e5':=decF (show ¬ (8:Int) < (xs.length:Int) by simpa using e5)
       simp only [RS,RT,RZ,Zu,rA,rB,rC,rD,rE,rF,reduceCtorEq,Zw,x128,y128,F128,Tm.len,Int.reduceBEq,Int.reduceBNe,hn,Bool.false_and,Bool.true_and,Bool.and_false,Bool.and_true,Bool.true_or,Bool.false_or,Bool.or_true,Bool.or_false,e2,e2',e3,e3',e4,e4',e5,e5']
       refine post_bind (loop128 hK (p:=st.next) (kd:=4) (nn:=nn) (nm:=nm) (k:=k) hl hoks ih (by simp only [RS,RT,RZ,Zu,rA,rB,rC,rD,rE,rF,reduceCtorEq,Zw,]) (by simp only [RS,RT,RZ,Zu,rA,rB,rC,rD,rE,rF,reduceCtorEq,Zw,]) (by simp only [RS,RT,RZ,Zu,rA,rB,rC,rD,rE,rF,reduceCtorEq,Zw,])) ?_
       rintro e T st1 ⟨rfl,⟨rfl,h⟩ | ⟨rfl,h2,h⟩⟩
       ·simp only [RS,RT,RZ,Zu,rA,rB,rC,rD,rE,rF,reduceCtorEq,Zw,h]
       ·simp only [RS,RT,RZ,Zu,rA,rB,rC,rD,rE,rF,reduceCtorEq,Zw,h,h2]
 by_cases h3:kd = 5
 ·subst h3
  rw [show nodeT 5 nn nm xs.length = ((nn == 0) && ((nm == []) && ((xs.length:Int) == 1))) from rfl]
  cases e2:(nn == (0:Int)) with
  | false =>
   have e2':=bneI e2
   simp only [RS,RT,RZ,Zu,rA,rB,rC,rD,rE,rF,reduceCtorEq,Zw,x128,y128,F128,Tm.len,Int.reduceBEq,Int.reduceBNe,hn,Bool.false_and,Bool.true_and,Bool.and_false,Bool.and_true,Bool.true_or,Bool.false_or,Bool.or_true,Bool.or_false,e2,e2']
  | true =>
   have e2':=bneI e2
   cases e3:(nm == ([]:List Nat)) with
   | false =>
    have e3':=bne_ e3
    simp only [RS,RT,RZ,Zu,rA,rB,rC,rD,rE,rF,reduceCtorEq,Zw,x128,y128,F128,Tm.len,Int.reduceBEq,Int.reduceBNe,hn,Bool.false_and,Bool.true_and,Bool.and_false,Bool.and_true,Bool.true_or,Bool.false_or,Bool.or_true,Bool.or_false,e2,e2',e3,e3']
   | true =>
    have e3':=bne_ e3
    cases e4:((xs.length:Int) == 1) with
    | false =>
     have e4':=bneI e4
     simp only [RS,RT,RZ,Zu,rA,rB,rC,rD,rE,rF,reduceCtorEq,Zw,x128,y128,F128,Tm.len,Int.reduceBEq,Int.reduceBNe,hn,Bool.false_and,Bool.true_and,Bool.and_false,Bool.and_true,Bool.true_or,Bool.false_or,Bool.or_true,Bool.or_false,e2,e2',e3,e3',e4,e4']
    | true =>
     have e4':=bneI e4
     have e8:=decF (show ¬ (8:Int) < (xs.length:Int) by rw [beq_iff_eq] at e4; omega)
     simp only [RS,RT,RZ,Zu,rA,rB,rC,rD,rE,rF,reduceCtorEq,Zw,x128,y128,F128,Tm.len,Int.reduceBEq,Int.reduceBNe,hn,Bool.false_and,Bool.true_and,Bool.and_false,Bool.and_true,Bool.true_or,Bool.false_or,Bool.or_true,Bool.or_false,e2,e2',e3,e3',e4,e4',e8]
     refine post_bind (loop128 hK (p:=st.next) (kd:=5) (nn:=nn) (nm:=nm) (k:=k) hl hoks ih (by simp only [RS,RT,RZ,Zu,rA,rB,rC,rD,rE,rF,reduceCtorEq,Zw,]) (by simp only [RS,RT,RZ,Zu,rA,rB,rC,rD,rE,rF,reduceCtorEq,Zw,]) (by simp only [RS,RT,RZ,Zu,rA,rB,rC,rD,rE,rF,reduceCtorEq,Zw,])) ?_
     rintro e T st1 ⟨rfl,⟨rfl,h⟩ | ⟨rfl,h2,h⟩⟩
     ·simp only [RS,RT,RZ,Zu,rA,rB,rC,rD,rE,rF,reduceCtorEq,Zw,h]
     ·simp only [RS,RT,RZ,Zu,rA,rB,rC,rD,rE,rF,reduceCtorEq,Zw,h,h2]
 ·have hN:nodeT kd nn nm xs.length = false:=by
   unfold nodeT
   rw [if_neg h1,if_neg h2,show (kd == 5) = false from by simpa using h3,Bool.false_and]
  have f1:(kd == (1:Int)) = false:=by simpa using h1
  have f2:(kd == (2:Int)) = false:=by simp; omega
  have f3:(kd == (3:Int)) = false:=by simp; omega
  have f4:(kd == (4:Int)) = false:=by simp; omega
  have f5:(kd == (5:Int)) = false:=by simpa using h3
  rw [hN,Bool.false_and]
  simp only [RS,RT,RZ,Zu,rA,rB,rC,rD,rE,rF,reduceCtorEq,Zw,x128,y128,F128,f1,f2,f3,f4,f5]
theorem rraw59 {t:Tm} (hok:t.Ok):Ret Q 59 [t.av] (.int .i64 (rawTm t)):=fun st => by
 refine callY (N:=12) (ok59 hK) (hK.nx _ _ _ rfl) rfl rfl ?_
 have h1:=nodes117 hK 100 (Nat.le_refl _) t hok 0 (by omega)
 have h2:=depth127 hK hok
 have h3:=shaped128 hK t hok
 rw [show ((0:Nat):Int) = 0 from rfl,show ((100 + 1:Nat):Int) = 101 from rfl] at h1
 have hv:rawTm t = if 4000 < t.nd 100 then 2 else if t.dp 100 then 5 else if t.shp then 0 else 6:=by
  unfold rawTm Tm.sized
  by_cases a:4000 < t.nd 100 <;> by_cases b:t.dp 100 = true <;> by_cases c:t.shp = true <;> simp [a,b,c]
 have hdp:=Tm.rd_dp 100 100 t (Nat.le_refl _)
 rw [hv]
 clear hv
 obtain ⟨m,hm⟩:∃ m,m = t.nd 100:=⟨_,rfl⟩
 obtain ⟨d,hd⟩:∃ d,d = t.rd 100:=⟨_,rfl⟩
 obtain ⟨dp,hdp2⟩:∃ dp,dp = t.dp 100:=⟨_,rfl⟩
 obtain ⟨sh,hsh⟩:∃ sh,sh = t.shp:=⟨_,rfl⟩
 rw [← hm] at h1 ⊢
 rw [← hd] at h2 hdp
 rw [← hsh] at h3 ⊢
 rw [← hdp2] at hdp ⊢
 clear hm hd hdp2 hsh
 obtain ⟨kd,nn,nm,k,xs⟩:=t
 rw [Tm.av] at h1 h2 h3 ⊢
 by_cases hb:4000 < m
 ·have hx:min (0 + m) 4001 = 4001:=by omega
  rw [hx,show ((4001:Nat):Int) = 4001 from rfl] at h1
  have f1:=decT (show (4000:Int) < 4001 by decide)
  rw [if_pos hb]
  simp only [RS,RT,RZ,Zu,rA,rB,rC,rD,rE,rF,reduceCtorEq,Zw,x59,F59,h1,f1]
 ·have hx:min (0 + m) 4001 = m:=by omega
  have f1:=decF (show ¬ (4000:Int) < (m:Int) by omega)
  rw [hx] at h1
  rw [if_neg hb]
  cases dp with
  | true =>
   have f2:=decT (show (100:Int) < (d:Int) by have:=hdp.2 rfl; omega)
   rw [if_pos rfl]
   simp only [RS,RT,RZ,Zu,rA,rB,rC,rD,rE,rF,reduceCtorEq,Zw,x59,F59,h1,h2,f1,f2]
  | false =>
   have f2:=decF (show ¬ (100:Int) < (d:Int) by intro h; have:=hdp.1 (by omega); cases this)
   rw [if_neg (by decide)]
   cases sh with
   | true => simp only [RS,RT,RZ,Zu,rA,rB,rC,rD,rE,rF,reduceCtorEq,Zw,x59,F59,h1,h2,h3,f1,f2,if_pos]
   | false => simp only [RS,RT,RZ,Zu,rA,rB,rC,rD,rE,rF,reduceCtorEq,Zw,x59,F59,h1,h2,h3,f1,f2,if_neg,Bool.false_eq_true]
omit hK in
theorem shp_nil {nm:List Nat} {k:SK} {xs:List Ty} (h:(nm == arrow) = false):(Ty.mk nm k xs).shp = ((xs.length:Int) == 0):=by
 rw [Ty.shp,tyN,h]
 cases xs with
 | nil => rfl
 | cons a r =>
  have h0:(((a :: r).length:Int) == 0) = false:=by simp; omega
  rw [h0]; simp
omit hK in
theorem shp_arr {nm:List Nat} {k:SK} {xs:List Ty} (h:(nm == arrow) = true):(Ty.mk nm k xs).shp = (((xs.length:Int) == 2) && Ty.shps xs):=by
 rw [Ty.shp,tyN,h,Bool.true_or,Bool.and_true]
 cases e:((xs.length:Int) == 2) <;> rfl
theorem formed135 (t:Ty):t.Ok → Ret Q 135 [t.av] (.bool t.shp):=by
 induction t using Ty.ind with
 | _ nm k xs ih =>
 intro hok st
 refine callY (N:=28) (ok135 hK) (hK.nx _ _ _ rfl) rfl rfl ?_
 obtain ⟨_,_,hl,hoks⟩:=hok
 rw [Ty.av]
 cases e1:(nm == arrow) with
 | false =>
  have e1':=e1
  rw [arrow] at e1'
  rw [shp_nil e1]
  simp only [RS,RT,RZ,Zu,rA,rB,rC,rD,rE,rF,reduceCtorEq,Zw,x135,F135,e1',Ty.len]
 | true =>
  have e1':=e1
  rw [arrow] at e1'
  rw [shp_arr e1]
  cases e2:((xs.length:Int) == 2) with
  | false => simp only [RS,RT,RZ,Zu,rA,rB,rC,rD,rE,rF,reduceCtorEq,Zw,x135,F135,e1',e2,Ty.len,Bool.false_and,Bool.true_and,Bool.and_false,Bool.and_true]
  | true =>
   obtain ⟨a,b,rfl⟩:∃ a b,xs = [a,b]:=by
    rw [beq_iff_eq] at e2
    match xs,e2 with
    | [a,b],_ => exact ⟨a,b,rfl⟩
    | [],h => simp at h
    | [_],h => simp at h
    | _ :: _ :: _ :: _,h => simp at h; omega
   have ca:=ih a (by simp) (Ty.oks hoks _ (by simp))
   have cb:=ih b (by simp) (Ty.oks hoks _ (by simp))
   rw [Ty.shps,Ty.shps,Ty.shps,Bool.and_true,Bool.true_and]
   cases ea:a.shp with
   | false =>
    rw [ea] at ca
    obtain ⟨nm1,k1,xs1⟩:=a
    obtain ⟨nm2,k2,xs2⟩:=b
    rw [Ty.av] at ca cb
    simp only [RS,RT,RZ,Zu,rA,rB,rC,rD,rE,rF,reduceCtorEq,Zw,x135,F135,e1',e2,Ty.len,Ty.avs,Ty.av,ca,cb,Bool.false_and,Bool.true_and,Bool.and_false,Bool.and_true]
   | true =>
    rw [ea] at ca
    obtain ⟨nm1,k1,xs1⟩:=a
    obtain ⟨nm2,k2,xs2⟩:=b
    rw [Ty.av] at ca cb
    simp only [RS,RT,RZ,Zu,rA,rB,rC,rD,rE,rF,reduceCtorEq,Zw,x135,F135,e1',e2,Ty.len,Ty.avs,Ty.av,ca,cb,Bool.false_and,Bool.true_and,Bool.and_false,Bool.and_true]
end
end Go.Proofs.L06

namespace Go.Proofs.L06
open Go Go.AE
open Nat renaming reduceLT → rA,reduceLeDiff → rB,reduceEqDiff → rC,reduceMul → rD,reduceAdd → rE,reduceSub → rF
set_option maxHeartbeats 8000000
def Ty.fe (t:Ty):Int:=if 4000 < t.nd 100 then 2 else if t.dp 100 then 5 else if t.shp then 0 else 6
theorem Ty.fe_err (t:Ty):(t.fe == 0) = (t.err == 0 || t.err == 40):=by
 unfold Ty.fe Ty.err Ty.sized
 by_cases a:4000 < t.nd 100 <;> by_cases b:t.dp 100 = true <;> by_cases c:t.shp = true <;> by_cases d:t.bs = true <;> simp [a,b,c,d]
theorem rchk_40 {k:Int} {s:List Nat} (h:¬ (s.length:Int) ≤ 40):rchk k s = false:=by
 have:decide (s.length ≤ 40) = false:=decF (by omega)
 rw [rchk,this]; simp
section
variable {Q:Ctx} (hK:K Q)
include hK
theorem formType69 {t:Ty} (hok:t.Ok):Ret Q 69 [t.av] (.int .i64 t.fe):=fun st => by
 refine callY (N:=12) (ok69 hK) (hK.nx _ _ _ rfl) rfl rfl ?_
 have h1:=nodes133 hK 100 (Nat.le_refl _) t hok 0 (by omega)
 have h2:=depth134 hK 100 (Nat.le_refl _) t hok
 have h3:=formed135 hK t hok
 rw [show ((0:Nat):Int) = 0 from rfl,show ((100 + 1:Nat):Int) = 101 from rfl] at h1
 rw [show ((100 + 1:Nat):Int) = 101 from rfl] at h2
 have hdp:=Ty.rd_dp 100 100 t (Nat.le_refl _)
 unfold Ty.fe
 obtain ⟨m,hm⟩:∃ m,m = t.nd 100:=⟨_,rfl⟩
 obtain ⟨d,hd⟩:∃ d,d = t.rd 100:=⟨_,rfl⟩
 obtain ⟨dp,hdp2⟩:∃ dp,dp = t.dp 100:=⟨_,rfl⟩
 obtain ⟨sh,hsh⟩:∃ sh,sh = t.shp:=⟨_,rfl⟩
 rw [← hm] at h1 ⊢
 rw [← hd] at h2 hdp
 rw [← hsh] at h3 ⊢
 rw [← hdp2] at hdp ⊢
 clear hm hd hdp2 hsh
 obtain ⟨nm,k,xs⟩:=t
 rw [Ty.av] at h1 h2 h3 ⊢
 by_cases hb:4000 < m
 ·have hx:min (0 + m) 4001 = 4001:=by omega
  rw [hx,show ((4001:Nat):Int) = 4001 from rfl] at h1
  have f1:=decT (show (4000:Int) < 4001 by decide)
  rw [if_pos hb]
  simp only [RS,RT,RZ,Zu,rA,rB,rC,rD,rE,rF,reduceCtorEq,Zw,x69,F69,h1,f1]
 ·have hx:min (0 + m) 4001 = m:=by omega
  have f1:=decF (show ¬ (4000:Int) < (m:Int) by omega)
  rw [hx] at h1
  rw [if_neg hb]
  cases dp with
  | true =>
   have f2:=decT (show (100:Int) < (d:Int) by have:=hdp.2 rfl; omega)
   rw [if_pos rfl]
   simp only [RS,RT,RZ,Zu,rA,rB,rC,rD,rE,rF,reduceCtorEq,Zw,x69,F69,h1,h2,f1,f2]
  | false =>
   have f2:=decF (show ¬ (100:Int) < (d:Int) by intro h; have:=hdp.1 (by omega); cases this)
   rw [if_neg (by decide)]
   cases sh with
   | true => simp only [RS,RT,RZ,Zu,rA,rB,rC,rD,rE,rF,reduceCtorEq,Zw,x69,F69,h1,h2,h3,f1,f2,if_pos]
   | false => simp only [RS,RT,RZ,Zu,rA,rB,rC,rD,rE,rF,reduceCtorEq,Zw,x69,F69,h1,h2,h3,f1,f2,if_neg,Bool.false_eq_true]
theorem any68 {s:List Nat} (hs:BStr s):Ret Q 68 [.str s] (.bool (chk1 1 s || chk1 2 s)):=fun st => by
 refine callY (N:=14) (ok68 hK) (hK.nx _ _ _ rfl) rfl rfl ?_
 have h1:=risName_c hK hs
 have h2:=risVar_c hK hs
 by_cases h:(s.length:Int) ≤ 40
 ·have f:=decT h
  cases e1:chk1 1 s with
  | false => simp only [RS,RT,RZ,Zu,rA,rB,rC,rD,rE,rF,reduceCtorEq,Zw,x68,F68,h1,h2,f,e1,Bool.false_or]
  | true => simp only [RS,RT,RZ,Zu,rA,rB,rC,rD,rE,rF,reduceCtorEq,Zw,x68,F68,h1,h2,f,e1,Bool.true_or]
 ·have f:=decF h
  rw [chk_eq (.inl rfl),chk_eq (.inr rfl),rchk_40 h,rchk_40 h]
  simp only [RS,RT,RZ,Zu,rA,rB,rC,rD,rE,rF,reduceCtorEq,Zw,x68,F68,f,Bool.or_self]
theorem isq60 {kd:Int}:Ret Q 60 [.int .i64 kd] (.bool (isQ kd)):=fun st => by
 refine callY (N:=9) (ok60 hK) (hK.nx _ _ _ rfl) rfl rfl ?_
 unfold isQ
 cases e1:(kd == (10:Int)) with
 | false => simp only [RS,RT,RZ,Zu,rA,rB,rC,rD,rE,rF,reduceCtorEq,Zw,x60,F60,e1,Bool.false_or]
 | true => simp only [RS,RT,RZ,Zu,rA,rB,rC,rD,rE,rF,reduceCtorEq,Zw,x60,F60,e1,Bool.true_or]
theorem arity98 {kd:Int}:Ret Q 98 [.int .i64 kd] (.int .i64 (prts kd)):=fun st => by
 refine callY (N:=19) (ok98 hK) (hK.nx _ _ _ rfl) rfl rfl ?_
 by_cases h1:kd = 1
 ·subst h1; simp only [RS,RT,RZ,Zu,rA,rB,rC,rD,rE,rF,reduceCtorEq,Zw,x98,F98,Int.reduceBEq,show prts 1 = 0 from rfl]
 by_cases h2:kd = 2
 ·subst h2; simp only [RS,RT,RZ,Zu,rA,rB,rC,rD,rE,rF,reduceCtorEq,Zw,x98,F98,Int.reduceBEq,show prts 2 = 0 from rfl]
 by_cases h3:kd = 3
 ·subst h3; simp only [RS,RT,RZ,Zu,rA,rB,rC,rD,rE,rF,reduceCtorEq,Zw,x98,F98,Int.reduceBEq,show prts 3 = 0 from rfl]
 by_cases h4:kd = 4
 ·subst h4; simp only [RS,RT,RZ,Zu,rA,rB,rC,rD,rE,rF,reduceCtorEq,Zw,x98,F98,Int.reduceBEq,show prts 4 = 2 from rfl]
 by_cases h5:kd = 5
 ·subst h5; simp only [RS,RT,RZ,Zu,rA,rB,rC,rD,rE,rF,reduceCtorEq,Zw,x98,F98,Int.reduceBEq,show prts 5 = 2 from rfl]
 by_cases h6:kd = 6
 ·subst h6; simp only [RS,RT,RZ,Zu,rA,rB,rC,rD,rE,rF,reduceCtorEq,Zw,x98,F98,Int.reduceBEq,show prts 6 = 2 from rfl]
 by_cases h7:kd = 7
 ·subst h7; simp only [RS,RT,RZ,Zu,rA,rB,rC,rD,rE,rF,reduceCtorEq,Zw,x98,F98,Int.reduceBEq,show prts 7 = 2 from rfl]
 by_cases h8:kd = 8
 ·subst h8; simp only [RS,RT,RZ,Zu,rA,rB,rC,rD,rE,rF,reduceCtorEq,Zw,x98,F98,Int.reduceBEq,show prts 8 = 2 from rfl]
 by_cases h9:kd = 9
 ·subst h9; simp only [RS,RT,RZ,Zu,rA,rB,rC,rD,rE,rF,reduceCtorEq,Zw,x98,F98,Int.reduceBEq,show prts 9 = 1 from rfl]
 by_cases h10:kd = 10
 ·subst h10; simp only [RS,RT,RZ,Zu,rA,rB,rC,rD,rE,rF,reduceCtorEq,Zw,x98,F98,Int.reduceBEq,show prts 10 = 1 from rfl]
 by_cases h11:kd = 11
 ·subst h11; simp only [RS,RT,RZ,Zu,rA,rB,rC,rD,rE,rF,reduceCtorEq,Zw,x98,F98,Int.reduceBEq,show prts 11 = 1 from rfl]
 by_cases h12:kd = 12
 ·subst h12; simp only [RS,RT,RZ,Zu,rA,rB,rC,rD,rE,rF,reduceCtorEq,Zw,x98,F98,Int.reduceBEq,show prts 12 = 1 from rfl]
 have hp:prts kd = -1:=by unfold prts; rw [if_neg (by omega),if_neg (by omega),if_neg (by omega)]
 rw [hp]
 simp only [RS,RT,RZ,Zu,rA,rB,rC,rD,rE,rF,reduceCtorEq,Zw,x98,F98,beq_false_of_ne h1,beq_false_of_ne h2,beq_false_of_ne h3,beq_false_of_ne h4,beq_false_of_ne h5,beq_false_of_ne h6,beq_false_of_ne h7,beq_false_of_ne h8,beq_false_of_ne h9,beq_false_of_ne h10,beq_false_of_ne h11,beq_false_of_ne h12]
end
end Go.Proofs.L06

namespace Go.Proofs.L06
open Go Go.AE
open Nat renaming reduceLT → rA,reduceLeDiff → rB,reduceEqDiff → rC,reduceMul → rD,reduceAdd → rE,reduceSub → rF
set_option maxHeartbeats 8000000
section
variable {Q:Ctx} (hK:K Q)
include hK
theorem loopA43 {kd:Int} {nm:List Nat} {ka:SK} {xs:List Tm} {ty:Ty} {kl:SK} {ls:List Fo} {p:Nat} (hl:xs.length < Big) (hoks:Tm.Oks xs) {T0:Nat → AV} {st0:St}
  (h1:T0 1 = .ptr p 0) (h3:T0 3 = .int .i64 0) (hp:st0.heap p = .mem 28 [.int .i64 kd,.str nm,.slice ka (Tm.avs xs),.str ty.nm,.slice ty.k (Ty.avs ty.xs),.slice kl (Fo.avs ls)] true 0) :
  Post 104 [] none (execY (callW Q) Q false 43 none (.loop l43_0) ⟨T0,104,[],none⟩ st0) fun e T st1 => st1 = st0 ∧ T 1 = .ptr p 0 ∧ ((e = .exit 0 ∧ (xs.any fun t => rawTm t != 0) = false) ∨ (e = .ret ∧ T 2 = .bool false ∧ (xs.any fun t => rawTm t != 0) = true)):=by
 refine post_for (I:=fun i T st1 => T 1 = .ptr p 0 ∧ T 3 = .int .i64 (i:Int) ∧ st1 = st0 ∧ ((xs.drop i).any fun t => rawTm t != 0) = (xs.any fun t => rawTm t != 0)) xs.length ?_ ?_ (Nat.zero_le _) ?_
 ·rintro i T _ hi ⟨t1,t3,rfl,hr⟩
  obtain ⟨a,ha⟩:∃ a,xs[i]? = some a:=⟨_,List.getElem?_eq_getElem hi⟩
  have ham:=List.mem_of_getElem? ha
  have hget:=Tm.get ha
  have hc:=rraw59 hK (Tm.oks hoks _ ham)
  have hi2:=wrapUp (show i < 9223372036854775807 by unfold Big at hl; omega)
  rw [drop_cons ha,List.any_cons] at hr
  obtain ⟨z,hz⟩:∃ z,z = rawTm a:=⟨_,rfl⟩
  rw [← hz] at hc hr
  cases hb:(z != 0) with
  | false =>
   rw [hb,Bool.false_or] at hr
   have hb':(z == 0) = true:=by simpa using hb
   obtain ⟨kd',n',nm',k',xs'⟩:=a
   rw [Tm.av] at hc hget
   simp only [RS,RT,RZ,Zu,rA,rB,rC,rD,rE,rF,reduceCtorEq,Zw,l43_0,m43_0,kd43_0,k43_0,t1,t3,hp,hi,hget,hc,hi2,Tm.len,hr,hb,hb']
  | true =>
   rw [hb,Bool.true_or] at hr
   have hb':(z == 0) = false:=by simpa using hb
   obtain ⟨kd',n',nm',k',xs'⟩:=a
   rw [Tm.av] at hc hget
   simp only [RS,RT,RZ,Zu,rA,rB,rC,rD,rE,rF,reduceCtorEq,Zw,l43_0,m43_0,kd43_0,k43_0,t1,t3,hp,hi,hget,hc,hi2,Tm.len,hr.symm,hb,hb']
 ·rintro T _ ⟨t1,t3,rfl,hr⟩
  rw [List.drop_length,List.any_nil] at hr
  simp only [RS,RT,RZ,Zu,rA,rB,rC,rD,rE,rF,reduceCtorEq,Zw,l43_0,m43_0,kd43_0,k43_0,t1,t3,hp,Tm.len,hr.symm]
 ·rw [List.drop_zero]
  exact ⟨h1,h3,rfl,rfl⟩
theorem loopL43 {kd:Int} {nm:List Nat} {ka:SK} {xs:List Tm} {ty:Ty} {kl:SK} {ls:List Fo} {p:Nat} (hl:ls.length < Big) (hoks:Fo.Oks ls) (ih:∀ a ∈ ls,a.Ok → Ret Q 43 [a.av] (.bool a.shp)) {T0:Nat → AV} {st0:St}
  (h1:T0 1 = .ptr p 0) (h3:T0 4 = .int .i64 0) (hp:st0.heap p = .mem 28 [.int .i64 kd,.str nm,.slice ka (Tm.avs xs),.str ty.nm,.slice ty.k (Ty.avs ty.xs),.slice kl (Fo.avs ls)] true 0) :
  Post 104 [] none (execY (callW Q) Q false 43 none (.loop l43_1) ⟨T0,104,[],none⟩ st0) fun e T st1 => st1 = st0 ∧ ((e = .exit 2 ∧ Fo.bads ls = false) ∨ (e = .ret ∧ T 2 = .bool false ∧ Fo.bads ls = true)):=by
 rw [Fo.bads_any]
 refine post_for (I:=fun i T st1 => T 1 = .ptr p 0 ∧ T 4 = .int .i64 (i:Int) ∧ st1 = st0 ∧ ((ls.drop i).any fun t => !t.shp) = (ls.any fun t => !t.shp)) ls.length ?_ ?_ (Nat.zero_le _) ?_
 ·rintro i T _ hi ⟨t1,t3,rfl,hr⟩
  obtain ⟨a,ha⟩:∃ a,ls[i]? = some a:=⟨_,List.getElem?_eq_getElem hi⟩
  have ham:=List.mem_of_getElem? ha
  have hget:=Fo.get ha
  have hc:=ih a ham (Fo.oks hoks _ ham)
  have hi2:=wrapUp (show i < 9223372036854775807 by unfold Big at hl; omega)
  rw [drop_cons ha,List.any_cons] at hr
  cases hb:a.shp with
  | true =>
   rw [hb,Bool.not_true,Bool.false_or] at hr
   rw [hb] at hc
   obtain ⟨kd',nm',ka',xs',ty',kl',ls'⟩:=a
   rw [Fo.av] at hc hget
   simp only [RS,RT,RZ,Zu,rA,rB,rC,rD,rE,rF,reduceCtorEq,Zw,l43_1,m43_1,kd43_0,k43_0,t1,t3,hp,hi,hget,hc,hi2,Fo.len,hr]
  | false =>
   rw [hb,Bool.not_false,Bool.true_or] at hr
   rw [hb] at hc
   obtain ⟨kd',nm',ka',xs',ty',kl',ls'⟩:=a
   rw [Fo.av] at hc hget
   simp only [RS,RT,RZ,Zu,rA,rB,rC,rD,rE,rF,reduceCtorEq,Zw,l43_1,m43_1,kd43_0,k43_0,t1,t3,hp,hi,hget,hc,hi2,Fo.len,hr.symm]
 ·rintro T _ ⟨t1,t3,rfl,hr⟩
  rw [List.drop_length,List.any_nil] at hr
  simp only [RS,RT,RZ,Zu,rA,rB,rC,rD,rE,rF,reduceCtorEq,Zw,l43_1,m43_1,kd43_0,k43_0,t1,t3,hp,Fo.len,hr.symm]
 ·rw [List.drop_zero]
  exact ⟨h1,h3,rfl,rfl⟩
theorem shaped43 (f:Fo):f.Ok → Ret Q 43 [f.av] (.bool f.shp):=by
 induction f using Fo.ind with
 | _ kd nm ka xs ty kl ls ih =>
 intro hok st
 refine callY (N:=104) (ok43 hK) (hK.nx _ _ _ rfl) rfl rfl ?_
 obtain ⟨_,hs,_,hl,hoks,hty,_,hl2,hoks2⟩:=hok
 have hn:=risName_c hK hs
 have ha:=any68 hK hs
 have hq:=isq60 hK (kd:=kd)
 have hr:=arity98 hK (kd:=kd)
 have hf:Ret Q 69 [.agg [.str ty.nm,.slice ty.k (Ty.avs ty.xs)]] (.int .i64 ty.fe):=by
  have:=formType69 hK hty
  obtain ⟨a,b,c⟩:=ty
  exact this
 have hfe:=Ty.fe_err ty
 rw [Fo.av,Fo.shp,othN,← hfe]
 generalize prts kd = pr at hr ⊢
 generalize ty.fe = fe at hf hfe ⊢
 generalize (chk1 1 nm || chk1 2 nm) = an at ha ⊢
 cases e0:(pr == (ls.length:Int)) with
 | false =>
  have e0':(((ls.length:Int)) == pr) = false:=by rw [Bool.beq_comm]; exact e0
  have en:=bneI e0'
  cases hd:decide (pr < (0:Int)) with
  | false => simp only [RS,RT,RZ,Zu,rA,rB,rC,rD,rE,rF,reduceCtorEq,Zw,x43,y43,kd43_0,k43_0,F43,Tm.len,Fo.len,Ty.len,Bool.false_and,Bool.true_and,Bool.and_false,Bool.and_true,Bool.true_or,Bool.false_or,Bool.or_true,Bool.or_false,Bool.not_true,Bool.not_false,hn,ha,hq,hr,hf,e0,e0',hd,en]
  | true => simp only [RS,RT,RZ,Zu,rA,rB,rC,rD,rE,rF,reduceCtorEq,Zw,x43,y43,kd43_0,k43_0,F43,Tm.len,Fo.len,Ty.len,Bool.false_and,Bool.true_and,Bool.and_false,Bool.and_true,Bool.true_or,Bool.false_or,Bool.or_true,Bool.or_false,Bool.not_true,Bool.not_false,hn,ha,hq,hr,hf,e0,e0',hd,en]
 | true =>
  have e0':(((ls.length:Int)) == pr) = true:=by rw [Bool.beq_comm]; exact e0
  have en:=bneI e0'
  have hd:decide (pr < (0:Int)) = false:=decF (by rw [beq_iff_eq] at e0; omega)
  cases q:isQ kd with
  | true =>
   have k1:kd ≠ 1:=by rintro rfl; cases q
   have k1':=beq_false_of_ne k1
   rw [if_neg k1]
   cases e1:an with
   | false =>
    simp only [RS,RT,RZ,Zu,rA,rB,rC,rD,rE,rF,reduceCtorEq,Zw,x43,y43,kd43_0,k43_0,F43,Tm.len,Fo.len,Ty.len,Bool.false_and,Bool.true_and,Bool.and_false,Bool.and_true,Bool.true_or,Bool.false_or,Bool.or_true,Bool.or_false,Bool.not_true,Bool.not_false,hn,ha,hq,hr,hf,q,e0,e0',hd,en,k1',e1]
   | true =>
    cases e2:(fe == (0:Int)) with
    | false =>
     have e2':=bneI e2
     simp only [RS,RT,RZ,Zu,rA,rB,rC,rD,rE,rF,reduceCtorEq,Zw,x43,y43,kd43_0,k43_0,F43,Tm.len,Fo.len,Ty.len,Bool.false_and,Bool.true_and,Bool.and_false,Bool.and_true,Bool.true_or,Bool.false_or,Bool.or_true,Bool.or_false,Bool.not_true,Bool.not_false,hn,ha,hq,hr,hf,q,e0,e0',hd,en,k1',e1,e2,e2']
    | true =>
     have e2':=bneI e2
     cases e3:((xs.length:Int) == 0) with
     | false =>
      have e3':=decT (show (0:Int) < (xs.length:Int) by have:=bne_iff_ne.1 (bneI e3); omega)
      simp only [RS,RT,RZ,Zu,rA,rB,rC,rD,rE,rF,reduceCtorEq,Zw,x43,y43,kd43_0,k43_0,F43,Tm.len,Fo.len,Ty.len,Bool.false_and,Bool.true_and,Bool.and_false,Bool.and_true,Bool.true_or,Bool.false_or,Bool.or_true,Bool.or_false,Bool.not_true,Bool.not_false,hn,ha,hq,hr,hf,q,e0,e0',hd,en,k1',e1,e2,e2',e3,e3']
     | true =>
      have e3':=decF (show ¬ (0:Int) < (xs.length:Int) by rw [beq_iff_eq] at e3; omega)
      simp only [RS,RT,RZ,Zu,rA,rB,rC,rD,rE,rF,reduceCtorEq,Zw,x43,y43,kd43_0,k43_0,F43,Tm.len,Fo.len,Ty.len,Bool.false_and,Bool.true_and,Bool.and_false,Bool.and_true,Bool.true_or,Bool.false_or,Bool.or_true,Bool.or_false,Bool.not_true,Bool.not_false,hn,ha,hq,hr,hf,q,e0,e0',hd,en,k1',e1,e2,e2',e3,e3']
      refine post_bind (loopL43 hK (p:=st.next) (kd:=kd) (nm:=nm) (ka:=ka) (xs:=xs) (ty:=ty) (kl:=kl) hl2 hoks2 ih (by simp only [RS,RT,RZ,Zu,rA,rB,rC,rD,rE,rF,reduceCtorEq,Zw,]) (by simp only [RS,RT,RZ,Zu,rA,rB,rC,rD,rE,rF,reduceCtorEq,Zw,]) (by simp only [RS,RT,RZ,Zu,rA,rB,rC,rD,rE,rF,reduceCtorEq,Zw,])) ?_
      rintro e T st1 ⟨rfl,⟨rfl,h⟩ | ⟨rfl,h2,h⟩⟩
      ·simp only [RS,RT,RZ,Zu,rA,rB,rC,rD,rE,rF,reduceCtorEq,Zw,h,Bool.not_false,Bool.not_true]
      ·simp only [RS,RT,RZ,Zu,rA,rB,rC,rD,rE,rF,reduceCtorEq,Zw,h,h2,Bool.not_false,Bool.not_true]
  | false =>
   cases e1:(ty.nm == ([]:List Nat)) with
   | false =>
    have e1':=bne_ e1
    simp only [RS,RT,RZ,Zu,rA,rB,rC,rD,rE,rF,reduceCtorEq,Zw,x43,y43,kd43_0,k43_0,F43,Tm.len,Fo.len,Ty.len,Bool.false_and,Bool.true_and,Bool.and_false,Bool.and_true,Bool.true_or,Bool.false_or,Bool.or_true,Bool.or_false,Bool.not_true,Bool.not_false,hn,ha,hq,hr,hf,q,e0,e0',hd,en,e1,e1']
   | true =>
    have e1':=bne_ e1
    cases e2:((ty.xs.length:Int) == 0) with
    | false =>
     have e2':=decT (show (0:Int) < (ty.xs.length:Int) by have:=bne_iff_ne.1 (bneI e2); omega)
     simp only [RS,RT,RZ,Zu,rA,rB,rC,rD,rE,rF,reduceCtorEq,Zw,x43,y43,kd43_0,k43_0,F43,Tm.len,Fo.len,Ty.len,Bool.false_and,Bool.true_and,Bool.and_false,Bool.and_true,Bool.true_or,Bool.false_or,Bool.or_true,Bool.or_false,Bool.not_true,Bool.not_false,hn,ha,hq,hr,hf,q,e0,e0',hd,en,e1,e1',e2,e2']
    | true =>
     have e2':=decF (show ¬ (0:Int) < (ty.xs.length:Int) by rw [beq_iff_eq] at e2; omega)
     by_cases k1:kd = 1
     ·subst k1
      rw [if_pos rfl,atomN]
      cases e3:chk1 1 nm with
      | false =>
       have e3':=e3
       simp only [RS,RT,RZ,Zu,rA,rB,rC,rD,rE,rF,reduceCtorEq,Zw,x43,y43,kd43_0,k43_0,F43,Tm.len,Fo.len,Ty.len,Bool.false_and,Bool.true_and,Bool.and_false,Bool.and_true,Bool.true_or,Bool.false_or,Bool.or_true,Bool.or_false,Bool.not_true,Bool.not_false,hn,ha,hq,hr,hf,q,e0,e0',hd,en,e1,e1',e2,e2',Int.reduceBEq,e3,e3']
      | true =>
       have e3':=e3
       cases e4:decide ((xs.length:Int) ≤ 8) with
       | false =>
        have e4':=decT (show (8:Int) < (xs.length:Int) by simpa using e4)
        simp only [RS,RT,RZ,Zu,rA,rB,rC,rD,rE,rF,reduceCtorEq,Zw,x43,y43,kd43_0,k43_0,F43,Tm.len,Fo.len,Ty.len,Bool.false_and,Bool.true_and,Bool.and_false,Bool.and_true,Bool.true_or,Bool.false_or,Bool.or_true,Bool.or_false,Bool.not_true,Bool.not_false,hn,ha,hq,hr,hf,q,e0,e0',hd,en,e1,e1',e2,e2',Int.reduceBEq,e3,e3',e4,e4']
       | true =>
        have e4':=decF (show ¬ (8:Int) < (xs.length:Int) by simpa using e4)
        simp only [RS,RT,RZ,Zu,rA,rB,rC,rD,rE,rF,reduceCtorEq,Zw,x43,y43,kd43_0,k43_0,F43,Tm.len,Fo.len,Ty.len,Bool.false_and,Bool.true_and,Bool.and_false,Bool.and_true,Bool.true_or,Bool.false_or,Bool.or_true,Bool.or_false,Bool.not_true,Bool.not_false,hn,ha,hq,hr,hf,q,e0,e0',hd,en,e1,e1',e2,e2',Int.reduceBEq,e3,e3',e4,e4']
        refine post_bind (loopA43 hK (p:=st.next) (kd:=1) (nm:=nm) (ka:=ka) (xs:=xs) (ty:=ty) (kl:=kl) (ls:=ls) hl hoks (by simp only [RS,RT,RZ,Zu,rA,rB,rC,rD,rE,rF,reduceCtorEq,Zw,]) (by simp only [RS,RT,RZ,Zu,rA,rB,rC,rD,rE,rF,reduceCtorEq,Zw,]) (by simp only [RS,RT,RZ,Zu,rA,rB,rC,rD,rE,rF,reduceCtorEq,Zw,])) ?_
        rintro e T st1 ⟨rfl,t1,⟨rfl,h⟩ | ⟨rfl,h2,h⟩⟩
        ·simp only [RS,RT,RZ,Zu,rA,rB,rC,rD,rE,rF,reduceCtorEq,Zw,h,t1,Bool.not_false,Bool.not_true,Bool.true_and,Bool.and_true]
         refine post_bind (loopL43 hK (p:=st.next) (kd:=1) (nm:=nm) (ka:=ka) (xs:=xs) (ty:=ty) (kl:=kl) hl2 hoks2 ih (by simp only [RS,RT,RZ,Zu,rA,rB,rC,rD,rE,rF,reduceCtorEq,Zw,t1]) (by simp only [RS,RT,RZ,Zu,rA,rB,rC,rD,rE,rF,reduceCtorEq,Zw,]) (by simp only [RS,RT,RZ,Zu,rA,rB,rC,rD,rE,rF,reduceCtorEq,Zw,])) ?_
         rintro e T st1 ⟨rfl,⟨rfl,h⟩ | ⟨rfl,h2,h⟩⟩
         ·simp only [RS,RT,RZ,Zu,rA,rB,rC,rD,rE,rF,reduceCtorEq,Zw,h,Bool.not_false,Bool.not_true]
         ·simp only [RS,RT,RZ,Zu,rA,rB,rC,rD,rE,rF,reduceCtorEq,Zw,h,h2,Bool.not_false,Bool.not_true]
        ·simp only [RS,RT,RZ,Zu,rA,rB,rC,rD,rE,rF,reduceCtorEq,Zw,h,h2,Bool.not_false,Bool.not_true,Bool.and_false,Bool.false_and]
     ·have k1':=beq_false_of_ne k1
      rw [if_neg k1]
      cases e3:(nm == ([]:List Nat)) with
      | false =>
       have e3':=bne_ e3
       simp only [RS,RT,RZ,Zu,rA,rB,rC,rD,rE,rF,reduceCtorEq,Zw,x43,y43,kd43_0,k43_0,F43,Tm.len,Fo.len,Ty.len,Bool.false_and,Bool.true_and,Bool.and_false,Bool.and_true,Bool.true_or,Bool.false_or,Bool.or_true,Bool.or_false,Bool.not_true,Bool.not_false,hn,ha,hq,hr,hf,q,e0,e0',hd,en,e1,e1',e2,e2',k1',e3,e3']
      | true =>
       have e3':=bne_ e3
       cases e4:((xs.length:Int) == 0) with
       | false =>
        have e4':=decT (show (0:Int) < (xs.length:Int) by have:=bne_iff_ne.1 (bneI e4); omega)
        simp only [RS,RT,RZ,Zu,rA,rB,rC,rD,rE,rF,reduceCtorEq,Zw,x43,y43,kd43_0,k43_0,F43,Tm.len,Fo.len,Ty.len,Bool.false_and,Bool.true_and,Bool.and_false,Bool.and_true,Bool.true_or,Bool.false_or,Bool.or_true,Bool.or_false,Bool.not_true,Bool.not_false,hn,ha,hq,hr,hf,q,e0,e0',hd,en,e1,e1',e2,e2',k1',e3,e3',e4,e4']
       | true =>
        have e4':=decF (show ¬ (0:Int) < (xs.length:Int) by rw [beq_iff_eq] at e4; omega)
        simp only [RS,RT,RZ,Zu,rA,rB,rC,rD,rE,rF,reduceCtorEq,Zw,x43,y43,kd43_0,k43_0,F43,Tm.len,Fo.len,Ty.len,Bool.false_and,Bool.true_and,Bool.and_false,Bool.and_true,Bool.true_or,Bool.false_or,Bool.or_true,Bool.or_false,Bool.not_true,Bool.not_false,hn,ha,hq,hr,hf,q,e0,e0',hd,en,e1,e1',e2,e2',k1',e3,e3',e4,e4']
        refine post_bind (loopL43 hK (p:=st.next) (kd:=kd) (nm:=nm) (ka:=ka) (xs:=xs) (ty:=ty) (kl:=kl) hl2 hoks2 ih (by simp only [RS,RT,RZ,Zu,rA,rB,rC,rD,rE,rF,reduceCtorEq,Zw,]) (by simp only [RS,RT,RZ,Zu,rA,rB,rC,rD,rE,rF,reduceCtorEq,Zw,]) (by simp only [RS,RT,RZ,Zu,rA,rB,rC,rD,rE,rF,reduceCtorEq,Zw,])) ?_
        rintro e T st1 ⟨rfl,⟨rfl,h⟩ | ⟨rfl,h2,h⟩⟩
        ·simp only [RS,RT,RZ,Zu,rA,rB,rC,rD,rE,rF,reduceCtorEq,Zw,h,Bool.not_false,Bool.not_true]
        ·simp only [RS,RT,RZ,Zu,rA,rB,rC,rD,rE,rF,reduceCtorEq,Zw,h,h2,Bool.not_false,Bool.not_true]
theorem rraw8 {f:Fo} (hok:f.Ok):Ret Q 8 [f.av] (.int .i64 (rawFo f)):=fun st => by
 refine callY (N:=12) (ok8 hK) (hK.nx _ _ _ rfl) rfl rfl ?_
 have h1:=count41 hK f hok 4000 (Nat.le_refl _)
 have h2:=deep42 hK 100 (Nat.le_refl _) f hok
 have h3:=shaped43 hK f hok
 rw [show ((4000:Nat):Int) = 4000 from rfl,show 4000 + 1 = 4001 from rfl] at h1
 rw [show ((100:Nat):Int) = 100 from rfl] at h2
 have hdp:=Fo.rd_dp 100 100 f (Nat.le_refl _)
 unfold rawFo
 obtain ⟨m,hm⟩:∃ m,m = f.sz:=⟨_,rfl⟩
 obtain ⟨d,hd⟩:∃ d,d = f.rd 100:=⟨_,rfl⟩
 obtain ⟨dp,hdp2⟩:∃ dp,dp = f.dp 100:=⟨_,rfl⟩
 obtain ⟨sh,hsh⟩:∃ sh,sh = f.shp:=⟨_,rfl⟩
 rw [← hm] at h1 ⊢
 rw [← hd] at h2 hdp
 rw [← hsh] at h3 ⊢
 rw [← hdp2] at hdp ⊢
 clear hm hd hdp2 hsh
 obtain ⟨kd,nm,ka,xs,ty,kl,ls⟩:=f
 rw [Fo.av] at h1 h2 h3 ⊢
 by_cases hb:4000 < m
 ·have hx:min m 4001 = 4001:=by omega
  rw [hx,show ((4001:Nat):Int) = 4001 from rfl] at h1
  have f1:=decT (show (4000:Int) < 4001 by decide)
  rw [if_pos hb]
  simp only [RS,RT,RZ,Zu,rA,rB,rC,rD,rE,rF,reduceCtorEq,Zw,x8,F8,h1,f1]
 ·have hx:min m 4001 = m:=by omega
  have f1:=decF (show ¬ (4000:Int) < (m:Int) by omega)
  rw [hx] at h1
  rw [if_neg hb]
  cases dp with
  | true =>
   have f2:=decT (show (100:Int) < (d:Int) by have:=hdp.2 rfl; omega)
   rw [if_pos rfl]
   simp only [RS,RT,RZ,Zu,rA,rB,rC,rD,rE,rF,reduceCtorEq,Zw,x8,F8,h1,h2,f1,f2]
  | false =>
   have f2:=decF (show ¬ (100:Int) < (d:Int) by intro h; have:=hdp.1 (by omega); cases this)
   rw [if_neg (by decide)]
   cases sh with
   | true => simp only [RS,RT,RZ,Zu,rA,rB,rC,rD,rE,rF,reduceCtorEq,Zw,x8,F8,h1,h2,h3,f1,f2,if_pos]
   | false => simp only [RS,RT,RZ,Zu,rA,rB,rC,rD,rE,rF,reduceCtorEq,Zw,x8,F8,h1,h2,h3,f1,f2,if_neg,Bool.false_eq_true]
end
end Go.Proofs.L06

namespace Go.Proofs.L06
open Go Go.AE
open Nat renaming reduceLT → rA,reduceLeDiff → rB,reduceEqDiff → rC,reduceMul → rD,reduceAdd → rE,reduceSub → rF
set_option maxHeartbeats 8000000
theorem so_lss {a b:List Nat}:strOp .lss a b = some (.bool (strLt a b)):=(rfl)
theorem so_gtr {a b:List Nat}:strOp .gtr a b = some (.bool (!(strLt a b || a == b))):=(rfl)
theorem strLt_cmp (a b:List Nat):strLt a b = decide (cmpN a b = -1):=by
 rw [← cmpS_N]
 unfold cmpS
 by_cases h:(a == b) = true
 ·rw [if_pos h,beq_iff_eq.1 h,strLt_self]; rfl
 ·rw [if_neg h]
  cases strLt a b <;> rfl
theorem strGt_cmp (a b:List Nat):(strLt a b || a == b) = decide (cmpN a b ≠ 1):=by
 rw [← cmpS_N]
 unfold cmpS
 by_cases h:(a == b) = true
 ·rw [if_pos h,h,Bool.or_true]; rfl
 ·rw [if_neg h,Bool.eq_false_iff.2 h,Bool.or_false]
  cases strLt a b <;> rfl
theorem cmpN_3 (a b:List Nat):cmpN a b = -1 ∨ cmpN a b = 0 ∨ cmpN a b = 1:=by
 have:=sg_cmpN a b
 unfold sg at this
 omega
theorem sg_sub (a b:Int):sg (a - b) = cmpI a b:=by unfold sg cmpI; split <;> (try split) <;> omega
section
variable {Q:Ctx} (hK:K Q)
include hK
theorem strings115 {a b:List Nat}:Ret Q 115 [.str a,.str b] (.int .i64 (cmpN a b)):=fun st => by
 refine callY (N:=11) (ok115 hK) (hK.nx _ _ _ rfl) rfl rfl ?_
 have h1:=strLt_cmp a b
 have h2:=strGt_cmp a b
 rcases cmpN_3 a b with h | h | h
 ·rw [h] at h1 ⊢
  replace h1:strLt a b = true:=h1
  simp only [RS,RT,RZ,Zu,rA,rB,rC,rD,rE,rF,reduceCtorEq,Zw,x115,F115,so_lss,so_gtr,h1]
 ·rw [h] at h1 h2 ⊢
  replace h1:strLt a b = false:=h1
  replace h2:(strLt a b || a == b) = true:=h2
  rw [h1,Bool.false_or] at h2
  simp only [RS,RT,RZ,Zu,rA,rB,rC,rD,rE,rF,reduceCtorEq,Zw,x115,F115,so_lss,so_gtr,h1,h2,Bool.false_or,Bool.not_true]
 ·rw [h] at h1 h2 ⊢
  replace h1:strLt a b = false:=h1
  replace h2:(strLt a b || a == b) = false:=h2
  rw [h1,Bool.false_or] at h2
  simp only [RS,RT,RZ,Zu,rA,rB,rC,rD,rE,rF,reduceCtorEq,Zw,x115,F115,so_lss,so_gtr,h1,h2,Bool.false_or,Bool.not_false]
theorem order114 {a b:Int}:Ret Q 114 [.int .i64 a,.int .i64 b] (.int .i64 (cmpI a b)):=fun st => by
 refine callY (N:=11) (ok114 hK) (hK.nx _ _ _ rfl) rfl rfl ?_
 unfold cmpI
 by_cases e1:a < b
 ·have f1:=decT e1
  rw [if_pos e1]
  simp only [RS,RT,RZ,Zu,rA,rB,rC,rD,rE,rF,reduceCtorEq,Zw,x114,F114,f1]
 ·have f1:=decF e1
  rw [if_neg e1]
  by_cases e2:b < a
  ·have f2:=decT e2
   rw [if_pos e2]
   simp only [RS,RT,RZ,Zu,rA,rB,rC,rD,rE,rF,reduceCtorEq,Zw,x114,F114,f1,f2]
  ·have f2:=decF e2
   rw [if_neg e2]
   simp only [RS,RT,RZ,Zu,rA,rB,rC,rD,rE,rF,reduceCtorEq,Zw,x114,F114,f1,f2]
theorem loop113 {xs ys:List Ty} {nm nm':List Nat} {k k':SK} {p q:Nat} (hl:xs.length < Big) (he:xs.length = ys.length) (ih:∀ a ∈ xs,∀ b ∈ ys,Ret Q 113 [a.av,b.av] (.int .i64 (sg (a.cmp b)))) {T0:Nat → AV} {h0:Nat → AO} {n0:Nat}
  (h2:T0 2 = .ptr p 0) (h3:T0 3 = .ptr q 0) (h5:T0 5 = .int .i64 0) (hp:h0 p = .mem 25 [.str nm,.slice k (Ty.avs xs)] true 0) (hq:h0 q = .mem 25 [.str nm',.slice k' (Ty.avs ys)] true 0) :
  Post 52 [] none (execY (callW Q) Q false 113 none (.loop l113_0) ⟨T0,52,[],none⟩ ⟨h0,n0,[]⟩) fun e T st1 => st1 = ⟨h0,n0,[]⟩ ∧ ((e = .exit 0 ∧ sg (Ty.cmps xs ys) = 0) ∨ (e = .ret ∧ T 4 = .int .i64 (sg (Ty.cmps xs ys)))):=by
 refine post_for (I:=fun i T st1 => T 2 = .ptr p 0 ∧ T 3 = .ptr q 0 ∧ T 5 = .int .i64 (i:Int) ∧ st1 = ⟨h0,n0,[]⟩ ∧ sg (Ty.cmps (xs.drop i) (ys.drop i)) = sg (Ty.cmps xs ys)) xs.length ?_ ?_ (Nat.zero_le _) ?_
 ·rintro i T _ hi ⟨t2,t3,t5,rfl,hr⟩
  have hj:i < ys.length:=by omega
  obtain ⟨a,ha⟩:∃ a,xs[i]? = some a:=⟨_,List.getElem?_eq_getElem hi⟩
  obtain ⟨b,hb⟩:∃ b,ys[i]? = some b:=⟨_,List.getElem?_eq_getElem hj⟩
  have ga:=Ty.get ha
  have gb:=Ty.get hb
  have hc:=ih a (List.mem_of_getElem? ha) b (List.mem_of_getElem? hb)
  have hi2:=wrapUp (show i < 9223372036854775807 by unfold Big at hl; omega)
  rw [drop_cons ha,drop_cons hb,Ty.cmps,sg_or0] at hr
  by_cases z:a.cmp b = 0
  ·rw [if_pos z] at hr
   rw [z] at hc
   have hc':Ret Q 113 [a.av,b.av] (.int .i64 0):=hc
   obtain ⟨nm1,k1,xs1⟩:=a
   obtain ⟨nm2,k2,xs2⟩:=b
   rw [Ty.av] at ga gb
   rw [Ty.av,Ty.av] at hc'
   simp only [RS,RT,RZ,Zu,rA,rB,rC,rD,rE,rF,reduceCtorEq,Zw,l113_0,m113_0,kd113_0,k113_0,t2,t3,t5,hp,hq,hi,hj,ga,gb,hc',hi2,Ty.len,hr]
  ·rw [if_neg z] at hr
   have zn:(sg (a.cmp b) != 0) = true:=by rw [bne_iff_ne]; exact fun h => z (sg_z.1 h)
   rw [← hr]
   generalize sg (a.cmp b) = s at hc zn ⊢
   obtain ⟨nm1,k1,xs1⟩:=a
   obtain ⟨nm2,k2,xs2⟩:=b
   rw [Ty.av] at ga gb
   rw [Ty.av,Ty.av] at hc
   simp only [RS,RT,RZ,Zu,rA,rB,rC,rD,rE,rF,reduceCtorEq,Zw,l113_0,m113_0,kd113_0,k113_0,t2,t3,t5,hp,hq,hi,hj,ga,gb,hc,hi2,Ty.len,zn]
 ·rintro T _ ⟨t2,t3,t5,rfl,hr⟩
  rw [List.drop_length,he,List.drop_length] at hr
  have hr':(0:Int) = sg (Ty.cmps xs ys):=hr
  simp only [RS,RT,RZ,Zu,rA,rB,rC,rD,rE,rF,reduceCtorEq,Zw,l113_0,m113_0,kd113_0,k113_0,t2,t3,t5,hp,Ty.len,hr'.symm]
 ·rw [List.drop_zero,List.drop_zero]
  exact ⟨h2,h3,h5,rfl,rfl⟩
theorem ctype113 (a:Ty):∀ b:Ty,a.Ok → b.Ok → Ret Q 113 [a.av,b.av] (.int .i64 (sg (a.cmp b))):=by
 induction a using Ty.ind with
 | _ nm k xs ih =>
 rintro ⟨nm',k',ys⟩ hok hok' st
 refine callY (N:=52) (ok113 hK) (hK.nx _ _ _ rfl) rfl rfl ?_
 obtain ⟨_,_,hl,hoks⟩:=hok
 obtain ⟨_,_,hl',hoks'⟩:=hok'
 have h115:=strings115 hK (a:=nm) (b:=nm')
 have h114:=order114 hK (a:=(xs.length:Int)) (b:=(ys.length:Int))
 rw [Ty.av,Ty.av,Ty.cmp,sg_or0,sg_or0,sg_sub,sg_cmpN]
 cases e1:(nm == nm') with
 | false =>
  have e1':=bne_ e1
  rw [if_neg (show ¬ cmpN nm nm' = 0 by rw [cmpN_z]; simpa using e1)]
  simp only [RS,RT,RZ,Zu,rA,rB,rC,rD,rE,rF,reduceCtorEq,Zw,x113,y113,kd113_0,k113_0,F113,e1,e1',h115]
 | true =>
  have e1':=bne_ e1
  rw [if_pos (show cmpN nm nm' = 0 by rw [cmpN_z]; simpa using e1)]
  cases e2:((xs.length:Int) == (ys.length:Int)) with
  | false =>
   have e2':=bneI e2
   rw [if_neg (show ¬ (xs.length:Int) - ys.length = 0 by rw [beq_eq_false_iff_ne] at e2; omega)]
   simp only [RS,RT,RZ,Zu,rA,rB,rC,rD,rE,rF,reduceCtorEq,Zw,x113,y113,kd113_0,k113_0,F113,e1,e1',e2,e2',h114,Ty.len]
  | true =>
   have e2':=bneI e2
   have he:xs.length = ys.length:=by rw [beq_iff_eq] at e2; omega
   have e3:((xs.length:Int) - ys.length = 0):=by omega
   rw [if_pos e3]
   simp only [RS,RT,RZ,Zu,rA,rB,rC,rD,rE,rF,reduceCtorEq,Zw,x113,y113,kd113_0,k113_0,F113,e1,e1',e2,e2',Ty.len]
   refine post_bind (loop113 hK (p:=st.next) (q:=st.next + 1) (nm:=nm) (nm':=nm') (k:=k) (k':=k') hl he (fun a ha b hb => ih a ha b (Ty.oks hoks _ ha) (Ty.oks hoks' _ hb)) (by simp only [RS,RT,RZ,Zu,rA,rB,rC,rD,rE,rF,reduceCtorEq,Zw,]) (by simp only [RS,RT,RZ,Zu,rA,rB,rC,rD,rE,rF,reduceCtorEq,Zw,]) (by simp only [RS,RT,RZ,Zu,rA,rB,rC,rD,rE,rF,reduceCtorEq,Zw,]) (by simp only [RS,RT,RZ,Zu,rA,rB,rC,rD,rE,rF,reduceCtorEq,Zw,]) (by simp only [RS,RT,RZ,Zu,rA,rB,rC,rD,rE,rF,reduceCtorEq,Zw,])) ?_
   rintro e T st1 ⟨rfl,⟨rfl,h⟩ | ⟨rfl,h⟩⟩
   ·simp only [RS,RT,RZ,Zu,rA,rB,rC,rD,rE,rF,reduceCtorEq,Zw,h]
   ·simp only [RS,RT,RZ,Zu,rA,rB,rC,rD,rE,rF,reduceCtorEq,Zw,h]
end
end Go.Proofs.L06

namespace Go.Proofs.L06
open Go Go.AE
open Nat renaming reduceLT → rA,reduceLeDiff → rB,reduceEqDiff → rC,reduceMul → rD,reduceAdd → rE,reduceSub → rF
set_option maxHeartbeats 8000000
theorem sg_id {a b c d:Int} (ha:sg a = a) (hb:sg b = b) (hc:sg c = c) (hd:sg d = d):sg (or0 a (or0 b (or0 c d))) = or0 a (or0 b (or0 c d)):=by
 unfold or0; split <;> (try split) <;> (try split) <;> assumption
section
variable {Q:Ctx} (hK:K Q)
include hK
theorem loop181a {l:List Int} (hlen:l.length < 10) {p q:Nat} {k:SK} {T0:Nat → AV} {h0:Nat → AO} {n0:Nat}
  (h2:T0 2 = .ptr p 0) (h3:T0 3 = .ptr q 0) (h5:T0 5 = .slice k (l.map fun n => .int .i64 n)) (h6:T0 6 = .int .i64 0) :
  Post 68 [] none (execY (callW Q) Q false 181 none (.loop l181_0) ⟨T0,68,[],none⟩ ⟨h0,n0,[]⟩) fun e T st1 => st1 = ⟨h0,n0,[]⟩ ∧ ((e = .exit 0 ∧ T 2 = .ptr p 0 ∧ T 3 = .ptr q 0 ∧ l.foldr or0 0 = 0) ∨ (e = .ret ∧ T 4 = .int .i64 (l.foldr or0 0) ∧ l.foldr or0 0 ≠ 0)):=by
 refine post_for (I:=fun i T st1 => T 2 = .ptr p 0 ∧ T 3 = .ptr q 0 ∧ T 5 = .slice k (l.map fun n => .int .i64 n) ∧ T 6 = .int .i64 (i:Int) ∧ st1 = ⟨h0,n0,[]⟩ ∧ (l.drop i).foldr or0 0 = l.foldr or0 0) l.length ?_ ?_ (Nat.zero_le _) ?_
 ·rintro i T _ hi ⟨t2,t3,t5,t6,rfl,hr⟩
  obtain ⟨x,hx⟩:∃ x,l[i]? = some x:=⟨_,List.getElem?_eq_getElem hi⟩
  have hget:(l.map fun n => AV.int .i64 n)[i]? = some (.int .i64 x):=by rw [List.getElem?_map,hx]; rfl
  rw [drop_cons hx,List.foldr_cons] at hr
  have hi2:=wrapUp (show i < 9223372036854775807 by omega)
  by_cases e:x = 0
  ·subst e
   rw [or0,if_pos rfl] at hr
   simp only [RS,RT,RZ,Zu,rA,rB,rC,rD,rE,rF,reduceCtorEq,Zw,l181_0,m181_0,kd181_0,k181_0,kd181_1,k181_1,t2,t3,t5,t6,hi,hget,hi2,List.length_map,hr]
  ·have e':(x != 0) = true:=by rw [bne_iff_ne]; exact e
   rw [or0,if_neg e] at hr
   simp only [RS,RT,RZ,Zu,rA,rB,rC,rD,rE,rF,reduceCtorEq,Zw,l181_0,m181_0,kd181_0,k181_0,kd181_1,k181_1,t2,t3,t5,t6,hi,hget,hi2,e',List.length_map]
   rw [← hr]
   exact ⟨rfl,e⟩
 ·rintro T _ ⟨t2,t3,t5,t6,rfl,hr⟩
  rw [List.drop_length,List.foldr_nil] at hr
  simp only [RS,RT,RZ,Zu,rA,rB,rC,rD,rE,rF,reduceCtorEq,Zw,l181_0,m181_0,kd181_0,k181_0,kd181_1,k181_1,t2,t3,t5,t6,List.length_map,hr.symm]
 ·rw [List.drop_zero]
  exact ⟨h2,h3,h5,h6,rfl,rfl⟩
theorem loop181b {xs ys:List Tm} {kd n kd' n':Int} {nm nm':List Nat} {k k':SK} {p q:Nat} (hl:xs.length < Big) (he:xs.length = ys.length) (ih:∀ a ∈ xs,∀ b ∈ ys,Ret Q 181 [a.av,b.av] (.int .i64 (sg (a.cmp b)))) {T0:Nat → AV} {h0:Nat → AO} {n0:Nat}
  (h2:T0 2 = .ptr p 0) (h3:T0 3 = .ptr q 0) (h7:T0 7 = .int .i64 0) (hp:h0 p = .mem 39 [.int .i64 kd,.int .i64 n,.str nm,.slice k (Tm.avs xs)] true 0) (hq:h0 q = .mem 39 [.int .i64 kd',.int .i64 n',.str nm',.slice k' (Tm.avs ys)] true 0) :
  Post 68 [] none (execY (callW Q) Q false 181 none (.loop l181_1) ⟨T0,68,[],none⟩ ⟨h0,n0,[]⟩) fun e T st1 => st1 = ⟨h0,n0,[]⟩ ∧ ((e = .exit 2 ∧ sg (Tm.cmps xs ys) = 0) ∨ (e = .ret ∧ T 4 = .int .i64 (sg (Tm.cmps xs ys)))):=by
 refine post_for (I:=fun i T st1 => T 2 = .ptr p 0 ∧ T 3 = .ptr q 0 ∧ T 7 = .int .i64 (i:Int) ∧ st1 = ⟨h0,n0,[]⟩ ∧ sg (Tm.cmps (xs.drop i) (ys.drop i)) = sg (Tm.cmps xs ys)) xs.length ?_ ?_ (Nat.zero_le _) ?_
 ·rintro i T _ hi ⟨t2,t3,t7,rfl,hr⟩
  have hj:i < ys.length:=by omega
  obtain ⟨a,ha⟩:∃ a,xs[i]? = some a:=⟨_,List.getElem?_eq_getElem hi⟩
  obtain ⟨b,hb⟩:∃ b,ys[i]? = some b:=⟨_,List.getElem?_eq_getElem hj⟩
  have ga:=Tm.get ha
  have gb:=Tm.get hb
  have hc:=ih a (List.mem_of_getElem? ha) b (List.mem_of_getElem? hb)
  have hi2:=wrapUp (show i < 9223372036854775807 by unfold Big at hl; omega)
  rw [drop_cons ha,drop_cons hb,Tm.cmps,sg_or0] at hr
  by_cases z:a.cmp b = 0
  ·rw [if_pos z] at hr
   rw [z] at hc
   have hc':Ret Q 181 [a.av,b.av] (.int .i64 0):=hc
   obtain ⟨kd1,n1,nm1,k1,xs1⟩:=a
   obtain ⟨kd2,n2,nm2,k2,xs2⟩:=b
   rw [Tm.av] at ga gb
   rw [Tm.av,Tm.av] at hc'
   simp only [RS,RT,RZ,Zu,rA,rB,rC,rD,rE,rF,reduceCtorEq,Zw,l181_1,m181_1,kd181_0,k181_0,kd181_1,k181_1,t2,t3,t7,hp,hq,hi,hj,ga,gb,hc',hi2,Tm.len,hr]
  ·rw [if_neg z] at hr
   have zn:(sg (a.cmp b) != 0) = true:=by rw [bne_iff_ne]; exact fun h => z (sg_z.1 h)
   rw [← hr]
   generalize sg (a.cmp b) = s at hc zn ⊢
   obtain ⟨kd1,n1,nm1,k1,xs1⟩:=a
   obtain ⟨kd2,n2,nm2,k2,xs2⟩:=b
   rw [Tm.av] at ga gb
   rw [Tm.av,Tm.av] at hc
   simp only [RS,RT,RZ,Zu,rA,rB,rC,rD,rE,rF,reduceCtorEq,Zw,l181_1,m181_1,kd181_0,k181_0,kd181_1,k181_1,t2,t3,t7,hp,hq,hi,hj,ga,gb,hc,hi2,Tm.len,zn]
 ·rintro T _ ⟨t2,t3,t7,rfl,hr⟩
  rw [List.drop_length,he,List.drop_length] at hr
  have hr':(0:Int) = sg (Tm.cmps xs ys):=hr
  simp only [RS,RT,RZ,Zu,rA,rB,rC,rD,rE,rF,reduceCtorEq,Zw,l181_1,m181_1,kd181_0,k181_0,kd181_1,k181_1,t2,t3,t7,hp,Tm.len,hr'.symm]
 ·rw [List.drop_zero,List.drop_zero]
  exact ⟨h2,h3,h7,rfl,rfl⟩
theorem tcmp181 (a:Tm):∀ b:Tm,a.Ok → b.Ok → Ret Q 181 [a.av,b.av] (.int .i64 (sg (a.cmp b))):=by
 induction a using Tm.ind with
 | _ kd n nm k xs ih =>
 rintro ⟨kd',n',nm',k',ys⟩ hok hok' st
 refine callY (N:=68) (ok181 hK) (hK.nx _ _ _ rfl) rfl rfl ?_
 obtain ⟨_,_,_,_,hl,hoks⟩:=hok
 obtain ⟨_,_,_,_,hl',hoks'⟩:=hok'
 have f1:=order114 hK (a:=kd) (b:=kd')
 have f2:=order114 hK (a:=n) (b:=n')
 have f3:=strings115 hK (a:=nm) (b:=nm')
 have f4:=order114 hK (a:=(xs.length:Int)) (b:=(ys.length:Int))
 have hsg:=sg_id (sg_cmpI kd kd') (sg_cmpI n n') (sg_cmpN nm nm') (sg_cmpI xs.length ys.length)
 rw [Tm.av,Tm.av,Tm.cmp,sg_or0,hsg]
 have hz:or0 (cmpI kd kd') (or0 (cmpI n n') (or0 (cmpN nm nm') (cmpI xs.length ys.length))) = 0 → xs.length = ys.length:=fun h => by
  have:=cmpI_z.1 (or0_z.1 (or0_z.1 (or0_z.1 h).2).2).2
  omega
 generalize cmpI kd kd' = c1 at *
 generalize cmpI n n' = c2 at *
 generalize cmpN nm nm' = c3 at *
 generalize cmpI xs.length ys.length = c4 at *
 have hr:or0 c1 (or0 c2 (or0 c3 c4)) = [c1,c2,c3,c4].foldr or0 0:=by
  simp only [List.foldr]
  congr 3
  unfold or0; split <;> simp_all
 rw [hr] at hz ⊢
 simp only [RS,RT,RZ,Zu,rA,rB,rC,rD,rE,rF,reduceCtorEq,Zw,x181,y181,kd181_0,k181_0,kd181_1,k181_1,F181,f1,f2,f3,f4,Tm.len]
 refine post_bind (loop181a hK (l:=[c1,c2,c3,c4]) (by simp) (p:=st.next) (q:=st.next + 1) (k:=.exact) (by simp only [RS,RT,RZ,Zu,rA,rB,rC,rD,rE,rF,reduceCtorEq,Zw,]) (by simp only [RS,RT,RZ,Zu,rA,rB,rC,rD,rE,rF,reduceCtorEq,Zw,]) (by simp only [RS,RT,RZ,Zu,rA,rB,rC,rD,rE,rF,reduceCtorEq,Zw,List.map_cons]) (by simp only [RS,RT,RZ,Zu,rA,rB,rC,rD,rE,rF,reduceCtorEq,Zw,])) ?_
 rintro e T st1 ⟨rfl,⟨rfl,t2,t3,h⟩ | ⟨rfl,h4,h⟩⟩
 ·rw [if_pos h]
  simp only [RS,RT,RZ,Zu,rA,rB,rC,rD,rE,rF,reduceCtorEq,Zw,t2,t3]
  refine post_bind (loop181b hK (p:=st.next) (q:=st.next + 1) (kd:=kd) (n:=n) (nm:=nm) (kd':=kd') (n':=n') (nm':=nm') (k:=k) (k':=k') hl (hz h) (fun a ha b hb => ih a ha b (Tm.oks hoks _ ha) (Tm.oks hoks' _ hb)) (by simp only [RS,RT,RZ,Zu,rA,rB,rC,rD,rE,rF,reduceCtorEq,Zw,t2]) (by simp only [RS,RT,RZ,Zu,rA,rB,rC,rD,rE,rF,reduceCtorEq,Zw,t3]) (by simp only [RS,RT,RZ,Zu,rA,rB,rC,rD,rE,rF,reduceCtorEq,Zw,]) (by simp only [RS,RT,RZ,Zu,rA,rB,rC,rD,rE,rF,reduceCtorEq,Zw,]) (by simp only [RS,RT,RZ,Zu,rA,rB,rC,rD,rE,rF,reduceCtorEq,Zw,])) ?_
  rintro e T st1 ⟨rfl,⟨rfl,h⟩ | ⟨rfl,h⟩⟩
  ·simp only [RS,RT,RZ,Zu,rA,rB,rC,rD,rE,rF,reduceCtorEq,Zw,h]
  ·simp only [RS,RT,RZ,Zu,rA,rB,rC,rD,rE,rF,reduceCtorEq,Zw,h]
 ·rw [if_neg h]
  simp only [RS,RT,RZ,Zu,rA,rB,rC,rD,rE,rF,reduceCtorEq,Zw,h4]
theorem loop180 {xs ys:List Tm} {kd n kd' n':Int} {nm nm':List Nat} {k k':SK} {p q:Nat} (hl:xs.length < Big) (he:xs.length = ys.length) (ih:∀ a ∈ xs,∀ b ∈ ys,Ret Q 180 [a.av,b.av] (.bool (a.cmp b == 0))) {T0:Nat → AV} {h0:Nat → AO} {n0:Nat}
  (h2:T0 2 = .ptr p 0) (h3:T0 3 = .ptr q 0) (h7:T0 5 = .int .i64 0) (hp:h0 p = .mem 39 [.int .i64 kd,.int .i64 n,.str nm,.slice k (Tm.avs xs)] true 0) (hq:h0 q = .mem 39 [.int .i64 kd',.int .i64 n',.str nm',.slice k' (Tm.avs ys)] true 0) :
  Post 53 [] none (execY (callW Q) Q false 180 none (.loop l180_0) ⟨T0,53,[],none⟩ ⟨h0,n0,[]⟩) fun e T st1 => st1 = ⟨h0,n0,[]⟩ ∧ ((e = .exit 0 ∧ (Tm.cmps xs ys == 0) = true) ∨ (e = .ret ∧ T 4 = .bool false ∧ (Tm.cmps xs ys == 0) = false)):=by
 refine post_for (I:=fun i T st1 => T 2 = .ptr p 0 ∧ T 3 = .ptr q 0 ∧ T 5 = .int .i64 (i:Int) ∧ st1 = ⟨h0,n0,[]⟩ ∧ (Tm.cmps (xs.drop i) (ys.drop i) == 0) = (Tm.cmps xs ys == 0)) xs.length ?_ ?_ (Nat.zero_le _) ?_
 ·rintro i T _ hi ⟨t2,t3,t7,rfl,hr⟩
  have hj:i < ys.length:=by omega
  obtain ⟨a,ha⟩:∃ a,xs[i]? = some a:=⟨_,List.getElem?_eq_getElem hi⟩
  obtain ⟨b,hb⟩:∃ b,ys[i]? = some b:=⟨_,List.getElem?_eq_getElem hj⟩
  have ga:=Tm.get ha
  have gb:=Tm.get hb
  have hc:=ih a (List.mem_of_getElem? ha) b (List.mem_of_getElem? hb)
  have hi2:=wrapUp (show i < 9223372036854775807 by unfold Big at hl; omega)
  rw [drop_cons ha,drop_cons hb,Tm.cmps,or0] at hr
  by_cases z:a.cmp b = 0
  ·rw [if_pos z] at hr
   rw [z] at hc
   have hc':Ret Q 180 [a.av,b.av] (.bool true):=hc
   obtain ⟨kd1,n1,nm1,k1,xs1⟩:=a
   obtain ⟨kd2,n2,nm2,k2,xs2⟩:=b
   rw [Tm.av] at ga gb
   rw [Tm.av,Tm.av] at hc'
   simp only [RS,RT,RZ,Zu,rA,rB,rC,rD,rE,rF,reduceCtorEq,Zw,l180_0,m180_0,kd180_0,k180_0,t2,t3,t7,hp,hq,hi,hj,ga,gb,hc',hi2,Tm.len,hr]
  ·rw [if_neg z] at hr
   have zn:(a.cmp b == 0) = false:=by rw [beq_eq_false_iff_ne]; exact z
   rw [zn] at hr hc
   obtain ⟨kd1,n1,nm1,k1,xs1⟩:=a
   obtain ⟨kd2,n2,nm2,k2,xs2⟩:=b
   rw [Tm.av] at ga gb
   rw [Tm.av,Tm.av] at hc
   simp only [RS,RT,RZ,Zu,rA,rB,rC,rD,rE,rF,reduceCtorEq,Zw,l180_0,m180_0,kd180_0,k180_0,t2,t3,t7,hp,hq,hi,hj,ga,gb,hc,hi2,Tm.len,hr.symm]
 ·rintro T _ ⟨t2,t3,t7,rfl,hr⟩
  rw [List.drop_length,he,List.drop_length] at hr
  have hr':true = (Tm.cmps xs ys == 0):=hr
  simp only [RS,RT,RZ,Zu,rA,rB,rC,rD,rE,rF,reduceCtorEq,Zw,l180_0,m180_0,kd180_0,k180_0,t2,t3,t7,hp,Tm.len,hr'.symm]
 ·rw [List.drop_zero,List.drop_zero]
  exact ⟨h2,h3,h7,rfl,rfl⟩
end
end Go.Proofs.L06

namespace Go.Proofs.L06
open Go Go.AE
open Nat renaming reduceLT → rA,reduceLeDiff → rB,reduceEqDiff → rC,reduceMul → rD,reduceAdd → rE,reduceSub → rF
set_option maxHeartbeats 8000000
theorem or0_eq {a b:Int}:(or0 a b == 0) = ((a == 0) && (b == 0)):=by
 rw [Bool.eq_iff_iff,beq_iff_eq,or0_z,Bool.and_eq_true,beq_iff_eq,beq_iff_eq]
theorem cmpI_eq {a b:Int}:(cmpI a b == 0) = (a == b):=by
 rw [Bool.eq_iff_iff,beq_iff_eq,cmpI_z,beq_iff_eq]
theorem cmpN_eq {a b:List Nat}:(cmpN a b == 0) = (a == b):=by
 rw [Bool.eq_iff_iff,beq_iff_eq,cmpN_z,beq_iff_eq]
theorem cmpl_eq:∀ {xs ys:List Tm},xs.length = ys.length → Tm.cmpl xs ys = Tm.cmps xs ys
 | [],[],_ => rfl
 | [],_ :: _,h => by simp at h
 | _ :: _,[],h => by simp at h
 | x :: xs,y :: ys,h => by rw [Tm.cmpl,Tm.cmps,cmpl_eq (by simpa using h)]
theorem cmpl_ne:∀ {xs ys:List Tm},xs.length ≠ ys.length → (Tm.cmpl xs ys == 0) = false
 | [],[],h => absurd rfl h
 | [],y :: ys,_ => by rw [Tm.cmpl,beq_eq_false_iff_ne]; simp; omega
 | x :: xs,[],_ => by rw [Tm.cmpl,beq_eq_false_iff_ne]; simp; omega
 | x :: xs,y :: ys,h => by rw [Tm.cmpl,or0_eq,cmpl_ne (by simpa using h),Bool.and_false]
section
variable {Q:Ctx} (hK:K Q)
include hK
theorem equal180 (a:Tm):∀ b:Tm,a.Ok → b.Ok → Ret Q 180 [a.av,b.av] (.bool (a.cmp b == 0)):=by
 induction a using Tm.ind with
 | _ kd n nm k xs ih =>
 rintro ⟨kd',n',nm',k',ys⟩ hok hok' st
 refine callY (N:=53) (ok180 hK) (hK.nx _ _ _ rfl) rfl rfl ?_
 obtain ⟨_,_,_,_,hl,hoks⟩:=hok
 obtain ⟨_,_,_,_,hl',hoks'⟩:=hok'
 rw [Tm.av,Tm.av,Tm.cmp,or0_eq,or0_eq,or0_eq,or0_eq,cmpI_eq,cmpI_eq,cmpN_eq,cmpI_eq]
 cases e1:(kd == kd') with
 | false =>
  have e1':=bneI e1
  simp only [RS,RT,RZ,Zu,rA,rB,rC,rD,rE,rF,reduceCtorEq,Zw,x180,y180,kd180_0,k180_0,F180,Tm.len,e1,e1',Bool.false_and,Bool.not_false]
 | true =>
  have e1':=bneI e1
  cases e2:(n == n') with
  | false =>
   have e2':=bneI e2
   simp only [RS,RT,RZ,Zu,rA,rB,rC,rD,rE,rF,reduceCtorEq,Zw,x180,y180,kd180_0,k180_0,F180,Tm.len,e1,e1',e2,e2',Bool.false_and,Bool.true_and,Bool.not_false,Bool.not_true]
  | true =>
   have e2':=bneI e2
   cases e3:(nm == nm') with
   | false =>
    have e3':=bne_ e3
    simp only [RS,RT,RZ,Zu,rA,rB,rC,rD,rE,rF,reduceCtorEq,Zw,x180,y180,kd180_0,k180_0,F180,Tm.len,e1,e1',e2,e2',e3,e3',Bool.false_and,Bool.true_and,Bool.not_false,Bool.not_true]
   | true =>
    have e3':=bne_ e3
    cases e4:((xs.length:Int) == (ys.length:Int)) with
    | false =>
     have e4':=bneI e4
     simp only [RS,RT,RZ,Zu,rA,rB,rC,rD,rE,rF,reduceCtorEq,Zw,x180,y180,kd180_0,k180_0,F180,Tm.len,e1,e1',e2,e2',e3,e3',e4,e4',Bool.false_and,Bool.true_and,Bool.not_false,Bool.not_true]
    | true =>
     have e4':=bneI e4
     have he:xs.length = ys.length:=by rw [beq_iff_eq] at e4; omega
     simp only [RS,RT,RZ,Zu,rA,rB,rC,rD,rE,rF,reduceCtorEq,Zw,x180,y180,kd180_0,k180_0,F180,Tm.len,e1,e1',e2,e2',e3,e3',e4,e4',Bool.false_and,Bool.true_and,Bool.not_false,Bool.not_true]
     refine post_bind (loop180 hK (p:=st.next) (q:=st.next + 1) (kd:=kd) (n:=n) (nm:=nm) (kd':=kd') (n':=n') (nm':=nm') (k:=k) (k':=k') hl he (fun a ha b hb => ih a ha b (Tm.oks hoks _ ha) (Tm.oks hoks' _ hb)) (by simp only [RS,RT,RZ,Zu,rA,rB,rC,rD,rE,rF,reduceCtorEq,Zw,]) (by simp only [RS,RT,RZ,Zu,rA,rB,rC,rD,rE,rF,reduceCtorEq,Zw,]) (by simp only [RS,RT,RZ,Zu,rA,rB,rC,rD,rE,rF,reduceCtorEq,Zw,]) (by simp only [RS,RT,RZ,Zu,rA,rB,rC,rD,rE,rF,reduceCtorEq,Zw,]) (by simp only [RS,RT,RZ,Zu,rA,rB,rC,rD,rE,rF,reduceCtorEq,Zw,])) ?_
     rintro e T st1 ⟨rfl,⟨rfl,h⟩ | ⟨rfl,h2,h⟩⟩
     ·simp only [RS,RT,RZ,Zu,rA,rB,rC,rD,rE,rF,reduceCtorEq,Zw,h]
     ·simp only [RS,RT,RZ,Zu,rA,rB,rC,rD,rE,rF,reduceCtorEq,Zw,h,h2]
theorem equalAll112 {xs ys:List Tm} {k k':SK} (hl:xs.length < Big) (hoks:Tm.Oks xs) (hoks':Tm.Oks ys):Ret Q 112 [.slice k (Tm.avs xs),.slice k' (Tm.avs ys)] (.bool (Tm.cmpl xs ys == 0)):=fun st => by
 refine callY (N:=27) (ok112 hK) (hK.nx _ _ _ rfl) rfl rfl ?_
 cases e4:((xs.length:Int) == (ys.length:Int)) with
 | false =>
  have e4':=bneI e4
  rw [cmpl_ne (by rw [beq_eq_false_iff_ne] at e4; omega)]
  simp only [RS,RT,RZ,Zu,rA,rB,rC,rD,rE,rF,reduceCtorEq,Zw,x112,y112,kd112_0,F112,Tm.len,e4,e4',Bool.not_false]
 | true =>
  have e4':=bneI e4
  have he:xs.length = ys.length:=by rw [beq_iff_eq] at e4; omega
  rw [cmpl_eq he]
  simp only [RS,RT,RZ,Zu,rA,rB,rC,rD,rE,rF,reduceCtorEq,Zw,x112,y112,kd112_0,F112,Tm.len,e4,e4',Bool.not_true]
  refine post_bind (post_for (I:=fun i T st1 => T 0 = .slice k (Tm.avs xs) ∧ T 1 = .slice k' (Tm.avs ys) ∧ T 5 = .int .i64 (i:Int) ∧ st1 = ⟨st.heap,st.next,[]⟩ ∧ (Tm.cmps (xs.drop i) (ys.drop i) == 0) = (Tm.cmps xs ys == 0))
   (Q:=fun e T st1 => st1 = ⟨st.heap,st.next,[]⟩ ∧ ((e = .exit 0 ∧ (Tm.cmps xs ys == 0) = true) ∨ (e = .ret ∧ T 4 = .bool false ∧ (Tm.cmps xs ys == 0) = false))) xs.length ?_ ?_ (Nat.zero_le _) ?_) ?_
  ·rintro i T _ hi ⟨t0,t1,t7,rfl,hr⟩
   have hj:i < ys.length:=by omega
   obtain ⟨a,ha⟩:∃ a,xs[i]? = some a:=⟨_,List.getElem?_eq_getElem hi⟩
   obtain ⟨b,hb⟩:∃ b,ys[i]? = some b:=⟨_,List.getElem?_eq_getElem hj⟩
   have ga:=Tm.get ha
   have gb:=Tm.get hb
   have hc:=equal180 hK a b (Tm.oks hoks _ (List.mem_of_getElem? ha)) (Tm.oks hoks' _ (List.mem_of_getElem? hb))
   have hi2:=wrapUp (show i < 9223372036854775807 by unfold Big at hl; omega)
   rw [drop_cons ha,drop_cons hb,Tm.cmps,or0] at hr
   by_cases z:a.cmp b = 0
   ·rw [if_pos z] at hr
    rw [z] at hc
    have hc':Ret Q 180 [a.av,b.av] (.bool true):=hc
    obtain ⟨kd1,n1,nm1,k1,xs1⟩:=a
    obtain ⟨kd2,n2,nm2,k2,xs2⟩:=b
    rw [Tm.av] at ga gb
    rw [Tm.av,Tm.av] at hc'
    simp only [RS,RT,RZ,Zu,rA,rB,rC,rD,rE,rF,reduceCtorEq,Zw,l112_0,m112_0,kd112_0,t0,t1,t7,hi,hj,ga,gb,hc',hi2,Tm.len,hr]
   ·rw [if_neg z] at hr
    have zn:(a.cmp b == 0) = false:=by rw [beq_eq_false_iff_ne]; exact z
    rw [zn] at hr hc
    obtain ⟨kd1,n1,nm1,k1,xs1⟩:=a
    obtain ⟨kd2,n2,nm2,k2,xs2⟩:=b
    rw [Tm.av] at ga gb
    rw [Tm.av,Tm.av] at hc
    simp only [RS,RT,RZ,Zu,rA,rB,rC,rD,rE,rF,reduceCtorEq,Zw,l112_0,m112_0,kd112_0,t0,t1,t7,hi,hj,ga,gb,hc,hi2,Tm.len,hr.symm]
  ·rintro T _ ⟨t0,t1,t7,rfl,hr⟩
   rw [List.drop_length,he,List.drop_length] at hr
   have hr':true = (Tm.cmps xs ys == 0):=hr
   simp only [RS,RT,RZ,Zu,rA,rB,rC,rD,rE,rF,reduceCtorEq,Zw,l112_0,m112_0,kd112_0,t0,t1,t7,Tm.len,hr'.symm]
  ·simp only [RS,RT,RZ,Zu,rA,rB,rC,rD,rE,rF,reduceCtorEq,Zw,List.drop_zero]
  ·rintro e T st1 ⟨rfl,⟨rfl,h⟩ | ⟨rfl,h2,h⟩⟩
   ·simp only [RS,RT,RZ,Zu,rA,rB,rC,rD,rE,rF,reduceCtorEq,Zw,h]
   ·simp only [RS,RT,RZ,Zu,rA,rB,rC,rD,rE,rF,reduceCtorEq,Zw,h,h2]
theorem tcmp116 {a b:Tm} (hok:a.Ok) (hok':b.Ok) (ra:rawTm a = 0) (rb:rawTm b = 0):Ret Q 116 [a.av,b.av] (.int .i64 (sg (a.cmp b))):=fun st => by
 refine callY (N:=30) (ok116 hK) (hK.nx _ _ _ rfl) rfl rfl ?_
 have h1:=rraw59 hK hok
 have h2:=rraw59 hK hok'
 have h3:=tcmp181 hK a b hok hok'
 rw [ra] at h1
 rw [rb] at h2
 generalize sg (a.cmp b) = z at *
 obtain ⟨kd,n,nm,k,xs⟩:=a
 obtain ⟨kd',n',nm',k',ys⟩:=b
 rw [Tm.av] at h1 h2 h3
 rw [Tm.av] at h3
 simp only [RS,RT,RZ,Zu,rA,rB,rC,rD,rE,rF,reduceCtorEq,Zw,x116,F116,Tm.av,Int.reduceBEq,h1,h2,h3]
end
end Go.Proofs.L06

namespace Go.Proofs.L06
open Go Go.AE
open Nat renaming reduceLT → rA,reduceLeDiff → rB,reduceEqDiff → rC,reduceMul → rD,reduceAdd → rE,reduceSub → rF
set_option maxHeartbeats 8000000
structure Shp (kd:Int) (nm:List Nat) (xs:List Tm) (ty:Ty) (ls:List Fo):Prop where
 pr:prts kd = (ls.length:Int)
 xs0:kd ≠ 1 → xs = []
 nm0:isQ kd = false → kd ≠ 1 → nm = []
 ty0:isQ kd = false → ty.nm = [] ∧ ty.xs = []
 raw:kd = 1 → ∀ t ∈ xs,rawTm t = 0
 sub:∀ t ∈ ls,t.shp = true
theorem shp_facts {kd:Int} {nm:List Nat} {ka:SK} {xs:List Tm} {ty:Ty} {kl:SK} {ls:List Fo} (h:(Fo.mk kd nm ka xs ty kl ls).shp = true):Shp kd nm xs ty ls:=by
 rw [Fo.shp] at h
 simp only [Bool.and_eq_true,Bool.not_eq_true'] at h
 obtain ⟨h1,h2,h3,h4⟩:=h
 refine ⟨beq_iff_eq.1 h1,fun hk => ?_,fun hq hk => ?_,fun hq => ?_,fun hk => ?_,fun t ht => ?_⟩
 ·rw [if_neg hk,othN] at h2
  simp only [Bool.and_eq_true] at h2
  have:=beq_iff_eq.1 h2.1
  exact List.length_eq_zero_iff.1 (by omega)
 ·rw [if_neg hk,othN,hq] at h2
  simp only [Bool.and_eq_true,Bool.false_or] at h2
  exact beq_iff_eq.1 h2.2.1
 ·rw [hq,Bool.false_or,Bool.and_eq_true] at h3
  have:=beq_iff_eq.1 h3.2
  exact ⟨beq_iff_eq.1 h3.1,List.length_eq_zero_iff.1 (by omega)⟩
 ·rw [if_pos hk] at h2
  exact atom_raw h2
 ·rw [Fo.bads_any] at h4
  have:=List.any_eq_false.1 h4 t ht
  simpa using this
theorem ty_zero {t u:Ty} (ht:t.nm = [] ∧ t.xs = []) (hu:u.nm = [] ∧ u.xs = []):t.cmp u = 0:=by
 obtain ⟨a,b,c⟩:=t
 obtain ⟨a',b',c'⟩:=u
 obtain ⟨h1,h2⟩:=ht
 obtain ⟨h3,h4⟩:=hu
 simp only [Ty.nm,Ty.xs] at h1 h2 h3 h4
 subst h1 h2 h3 h4
 rfl
section
variable {Q:Ctx} (hK:K Q)
include hK
theorem loop51 {kd kd':Int} {nm nm':List Nat} {ka ka':SK} {xs xs':List Tm} {ty ty':Ty} {kl kl':SK} {ls ls':List Fo} {p q:Nat} (hl:ls.length < Big) (he:ls.length = ls'.length)
  (ih:∀ a ∈ ls,∀ b ∈ ls',Ret Q 51 [a.av,b.av] (.bool (a.cmp b == 0))) {T0:Nat → AV} {h0:Nat → AO} {n0:Nat}
  (h2:T0 2 = .ptr p 0) (h3:T0 3 = .ptr q 0) (h7:T0 5 = .int .i64 0)
  (hp:h0 p = .mem 28 [.int .i64 kd,.str nm,.slice ka (Tm.avs xs),.str ty.nm,.slice ty.k (Ty.avs ty.xs),.slice kl (Fo.avs ls)] true 0)
  (hq:h0 q = .mem 28 [.int .i64 kd',.str nm',.slice ka' (Tm.avs xs'),.str ty'.nm,.slice ty'.k (Ty.avs ty'.xs),.slice kl' (Fo.avs ls')] true 0) :
  Post 71 [] none (execY (callW Q) Q false 51 none (.loop l51_0) ⟨T0,71,[],none⟩ ⟨h0,n0,[]⟩) fun e T st1 => st1 = ⟨h0,n0,[]⟩ ∧ ((e = .exit 0 ∧ (Fo.cmps ls ls' == 0) = true) ∨ (e = .ret ∧ T 4 = .bool false ∧ (Fo.cmps ls ls' == 0) = false)):=by
 refine post_for (I:=fun i T st1 => T 2 = .ptr p 0 ∧ T 3 = .ptr q 0 ∧ T 5 = .int .i64 (i:Int) ∧ st1 = ⟨h0,n0,[]⟩ ∧ (Fo.cmps (ls.drop i) (ls'.drop i) == 0) = (Fo.cmps ls ls' == 0)) ls.length ?_ ?_ (Nat.zero_le _) ?_
 ·rintro i T _ hi ⟨t2,t3,t7,rfl,hr⟩
  have hj:i < ls'.length:=by omega
  obtain ⟨a,ha⟩:∃ a,ls[i]? = some a:=⟨_,List.getElem?_eq_getElem hi⟩
  obtain ⟨b,hb⟩:∃ b,ls'[i]? = some b:=⟨_,List.getElem?_eq_getElem hj⟩
  have ga:=Fo.get ha
  have gb:=Fo.get hb
  have hc:=ih a (List.mem_of_getElem? ha) b (List.mem_of_getElem? hb)
  have hi2:=wrapUp (show i < 9223372036854775807 by unfold Big at hl; omega)
  rw [drop_cons ha,drop_cons hb,Fo.cmps,or0] at hr
  by_cases z:a.cmp b = 0
  ·rw [if_pos z] at hr
   rw [z] at hc
   have hc':Ret Q 51 [a.av,b.av] (.bool true):=hc
   obtain ⟨kd1,nm1,ka1,xs1,ty1,kl1,ls1⟩:=a
   obtain ⟨kd2,nm2,ka2,xs2,ty2,kl2,ls2⟩:=b
   rw [Fo.av] at ga gb
   rw [Fo.av,Fo.av] at hc'
   simp only [RS,RT,RZ,Zu,rA,rB,rC,rD,rE,rF,reduceCtorEq,Zw,l51_0,m51_0,kd51_0,k51_0,t2,t3,t7,hp,hq,hi,hj,ga,gb,hc',hi2,Fo.len,hr]
  ·rw [if_neg z] at hr
   have zn:(a.cmp b == 0) = false:=by rw [beq_eq_false_iff_ne]; exact z
   rw [zn] at hr hc
   obtain ⟨kd1,nm1,ka1,xs1,ty1,kl1,ls1⟩:=a
   obtain ⟨kd2,nm2,ka2,xs2,ty2,kl2,ls2⟩:=b
   rw [Fo.av] at ga gb
   rw [Fo.av,Fo.av] at hc
   simp only [RS,RT,RZ,Zu,rA,rB,rC,rD,rE,rF,reduceCtorEq,Zw,l51_0,m51_0,kd51_0,k51_0,t2,t3,t7,hp,hq,hi,hj,ga,gb,hc,hi2,Fo.len,hr.symm]
 ·rintro T _ ⟨t2,t3,t7,rfl,hr⟩
  rw [List.drop_length,he,List.drop_length] at hr
  have hr':true = (Fo.cmps ls ls' == 0):=hr
  simp only [RS,RT,RZ,Zu,rA,rB,rC,rD,rE,rF,reduceCtorEq,Zw,l51_0,m51_0,kd51_0,k51_0,t2,t3,t7,hp,Fo.len,hr'.symm]
 ·rw [List.drop_zero,List.drop_zero]
  exact ⟨h2,h3,h7,rfl,rfl⟩
theorem same51 (f:Fo):f.Ok → f.shp = true → ∀ g:Fo,g.Ok → g.shp = true → Ret Q 51 [f.av,g.av] (.bool (f.cmp g == 0)):=by
 induction f using Fo.ind with
 | _ kd nm ka xs ty kl ls ih =>
 rintro hok hsh ⟨kd',nm',ka',xs',ty',kl',ls'⟩ hok' hsh' st
 refine callY (N:=71) (ok51 hK) (hK.nx _ _ _ rfl) rfl rfl ?_
 obtain ⟨_,_,_,hl,hoks,hty,_,hl2,hoks2⟩:=hok
 obtain ⟨_,_,_,hl',hoks',hty',_,hl2',hoks2'⟩:=hok'
 have F:=shp_facts hsh
 have G:=shp_facts hsh'
 have hq:=isq60 hK (kd:=kd)
 have hea:=equalAll112 hK (k:=ka) (k':=ka') hl hoks hoks'
 have hct:Ret Q 113 [.agg [.str ty.nm,.slice ty.k (Ty.avs ty.xs)],.agg [.str ty'.nm,.slice ty'.k (Ty.avs ty'.xs)]] (.int .i64 (sg (ty.cmp ty'))):=by
  have:=ctype113 hK ty ty' hty hty'
  obtain ⟨a,b,c⟩:=ty
  obtain ⟨a',b',c'⟩:=ty'
  exact this
 rw [Fo.av,Fo.av,Fo.cmp]
 by_cases e1:kd = kd'
 ·subst e1
  rw [if_pos rfl]
  have e1':(kd != kd) = false:=by simp
  have he:ls.length = ls'.length:=by have:=F.pr; have:=G.pr; omega
  have he':((ls.length:Int) != (ls'.length:Int)) = false:=by rw [he]; simp
  have L:=@loop51 Q hK kd kd nm nm' ka ka' xs xs' ty ty' kl kl' ls ls' st.next (st.next + 1) hl2 he fun a ha b hb => ih a ha (Fo.oks hoks2 _ ha) (F.sub a ha) b (Fo.oks hoks2' _ hb) (G.sub b hb)
  by_cases k1:kd = 1
  ·subst k1
   rw [if_pos rfl,or0_eq,or0_eq,cmpN_eq]
   have q1:isQ 1 = false:=rfl
   have hlen:(((xs.length:Int) - xs'.length == 0) && (Tm.cmpl xs xs' == 0)) = (Tm.cmpl xs xs' == 0):=by
    by_cases h:xs.length = xs'.length
    ·rw [h]; simp
    ·rw [cmpl_ne h,Bool.and_false]
   rw [hlen]
   have l0:ls = []:=List.length_eq_zero_iff.1 (by have:=F.pr; rw [show prts 1 = 0 from rfl] at this; omega)
   have l0':ls' = []:=List.length_eq_zero_iff.1 (by rw [← he,l0]; rfl)
   generalize (Tm.cmpl xs xs' == 0) = ea at *
   cases e2:(nm == nm') with
   | false =>
    have e2':=bne_ e2
    simp only [RS,RT,RZ,Zu,rA,rB,rC,rD,rE,rF,reduceCtorEq,Zw,x51,y51,kd51_0,k51_0,F51,Tm.len,Fo.len,hq,q1,e1',he',e2,e2',hea,Bool.not_false,Bool.not_true,Bool.false_and,Bool.true_and]
   | true =>
    have e2':=bne_ e2
    cases ea with
    | false => simp only [RS,RT,RZ,Zu,rA,rB,rC,rD,rE,rF,reduceCtorEq,Zw,x51,y51,kd51_0,k51_0,F51,Tm.len,Fo.len,hq,q1,e1',he',e2,e2',hea,Bool.not_false,Bool.not_true,Bool.false_and,Bool.true_and]
    | true =>
     simp only [RS,RT,RZ,Zu,rA,rB,rC,rD,rE,rF,reduceCtorEq,Zw,x51,y51,kd51_0,k51_0,F51,Tm.len,Fo.len,hq,q1,e1',he',e2,e2',hea,Bool.not_false,Bool.not_true,Bool.false_and,Bool.true_and]
     refine post_bind (L (by simp only [RS,RT,RZ,Zu,rA,rB,rC,rD,rE,rF,reduceCtorEq,Zw,]) (by simp only [RS,RT,RZ,Zu,rA,rB,rC,rD,rE,rF,reduceCtorEq,Zw,]) (by simp only [RS,RT,RZ,Zu,rA,rB,rC,rD,rE,rF,reduceCtorEq,Zw,]) (by simp only [RS,RT,RZ,Zu,rA,rB,rC,rD,rE,rF,reduceCtorEq,Zw,]) (by simp only [RS,RT,RZ,Zu,rA,rB,rC,rD,rE,rF,reduceCtorEq,Zw,])) ?_
     rintro e T st1 ⟨rfl,⟨rfl,h⟩ | ⟨rfl,h2,h⟩⟩
     ·simp only [RS,RT,RZ,Zu,rA,rB,rC,rD,rE,rF,reduceCtorEq,Zw,h]
     ·rw [l0,l0'] at h
      cases h
  ·rw [if_neg k1,or0_eq]
   have x0:=F.xs0 k1
   have x0':=G.xs0 k1
   subst x0 x0'
   have hea':Ret Q 112 [.slice ka (Tm.avs []),.slice ka' (Tm.avs [])] (.bool true):=hea
   cases q:isQ kd with
   | true =>
    have hsg:(sg (ty.cmp ty') == 0) = (ty.cmp ty' == 0):=by rw [Bool.eq_iff_iff,beq_iff_eq,beq_iff_eq,sg_z]
    rw [← hsg]
    generalize sg (ty.cmp ty') = s at *
    cases e2:(s == (0:Int)) with
    | false =>
     have e2':=bneI e2
     simp only [RS,RT,RZ,Zu,rA,rB,rC,rD,rE,rF,reduceCtorEq,Zw,x51,y51,kd51_0,k51_0,F51,Tm.len,Fo.len,hq,q,e1',he',e2,e2',hea',hct,Bool.not_false,Bool.not_true,Bool.false_and,Bool.true_and]
    | true =>
     have e2':=bneI e2
     simp only [RS,RT,RZ,Zu,rA,rB,rC,rD,rE,rF,reduceCtorEq,Zw,x51,y51,kd51_0,k51_0,F51,Tm.len,Fo.len,hq,q,e1',he',e2,e2',hea',hct,Bool.not_false,Bool.not_true,Bool.false_and,Bool.true_and]
     refine post_bind (L (by simp only [RS,RT,RZ,Zu,rA,rB,rC,rD,rE,rF,reduceCtorEq,Zw,]) (by simp only [RS,RT,RZ,Zu,rA,rB,rC,rD,rE,rF,reduceCtorEq,Zw,]) (by simp only [RS,RT,RZ,Zu,rA,rB,rC,rD,rE,rF,reduceCtorEq,Zw,]) (by simp only [RS,RT,RZ,Zu,rA,rB,rC,rD,rE,rF,reduceCtorEq,Zw,]) (by simp only [RS,RT,RZ,Zu,rA,rB,rC,rD,rE,rF,reduceCtorEq,Zw,])) ?_
     rintro e T st1 ⟨rfl,⟨rfl,h⟩ | ⟨rfl,h2,h⟩⟩
     ·simp only [RS,RT,RZ,Zu,rA,rB,rC,rD,rE,rF,reduceCtorEq,Zw,h]
     ·simp only [RS,RT,RZ,Zu,rA,rB,rC,rD,rE,rF,reduceCtorEq,Zw,h,h2]
   | false =>
    have n0:=F.nm0 q k1
    have n0':=G.nm0 q k1
    subst n0 n0'
    rw [ty_zero (F.ty0 q) (G.ty0 q),show ((0:Int) == 0) = true from rfl]
    have enn:(([]:List Nat) != []) = false:=rfl
    have enn2:(([]:List Nat) == []) = true:=rfl
    simp only [RS,RT,RZ,Zu,rA,rB,rC,rD,rE,rF,reduceCtorEq,Zw,x51,y51,kd51_0,k51_0,F51,Tm.len,Fo.len,hq,q,e1',he',enn,enn2,hea',Bool.not_false,Bool.not_true,Bool.false_and,Bool.true_and]
    refine post_bind (L (by simp only [RS,RT,RZ,Zu,rA,rB,rC,rD,rE,rF,reduceCtorEq,Zw,]) (by simp only [RS,RT,RZ,Zu,rA,rB,rC,rD,rE,rF,reduceCtorEq,Zw,]) (by simp only [RS,RT,RZ,Zu,rA,rB,rC,rD,rE,rF,reduceCtorEq,Zw,]) (by simp only [RS,RT,RZ,Zu,rA,rB,rC,rD,rE,rF,reduceCtorEq,Zw,]) (by simp only [RS,RT,RZ,Zu,rA,rB,rC,rD,rE,rF,reduceCtorEq,Zw,])) ?_
    rintro e T st1 ⟨rfl,⟨rfl,h⟩ | ⟨rfl,h2,h⟩⟩
    ·simp only [RS,RT,RZ,Zu,rA,rB,rC,rD,rE,rF,reduceCtorEq,Zw,h]
    ·simp only [RS,RT,RZ,Zu,rA,rB,rC,rD,rE,rF,reduceCtorEq,Zw,h,h2]
 ·have e1':(kd != kd') = true:=by rw [bne_iff_ne]; exact e1
  have ez:(kd - kd' == 0) = false:=by rw [beq_eq_false_iff_ne]; omega
  rw [if_neg e1,ez]
  simp only [RS,RT,RZ,Zu,rA,rB,rC,rD,rE,rF,reduceCtorEq,Zw,x51,y51,kd51_0,k51_0,F51,Tm.len,Fo.len,e1']
end
end Go.Proofs.L06

namespace Go.Proofs.L06
open Go Go.AE
open Nat renaming reduceLT → rA,reduceLeDiff → rB,reduceEqDiff → rC,reduceMul → rD,reduceAdd → rE,reduceSub → rF
set_option maxHeartbeats 8000000
section
variable {Q:Ctx} (hK:K Q)
include hK
theorem loop53a {kd kd':Int} {nm nm':List Nat} {ka ka':SK} {xs xs':List Tm} {ty ty':Ty} {kl kl':SK} {ls ls':List Fo} {p q:Nat} (hl:xs.length < Big) (he:xs.length = xs'.length)
  (ih:∀ a ∈ xs,∀ b ∈ xs',Ret Q 116 [a.av,b.av] (.int .i64 (sg (a.cmp b)))) {T0:Nat → AV} {h0:Nat → AO} {n0:Nat}
  (h2:T0 2 = .ptr p 0) (h3:T0 3 = .ptr q 0) (h7:T0 5 = .int .i64 0)
  (hp:h0 p = .mem 28 [.int .i64 kd,.str nm,.slice ka (Tm.avs xs),.str ty.nm,.slice ty.k (Ty.avs ty.xs),.slice kl (Fo.avs ls)] true 0)
  (hq:h0 q = .mem 28 [.int .i64 kd',.str nm',.slice ka' (Tm.avs xs'),.str ty'.nm,.slice ty'.k (Ty.avs ty'.xs),.slice kl' (Fo.avs ls')] true 0) :
  Post 100 [] none (execY (callW Q) Q false 53 none (.loop l53_0) ⟨T0,100,[],none⟩ ⟨h0,n0,[]⟩) fun e T st1 => st1 = ⟨h0,n0,[]⟩ ∧ ((e = .exit 0 ∧ sg (Tm.cmps xs xs') = 0) ∨ (e = .ret ∧ T 4 = .int .i64 (sg (Tm.cmps xs xs')))):=by
 refine post_for (I:=fun i T st1 => T 2 = .ptr p 0 ∧ T 3 = .ptr q 0 ∧ T 5 = .int .i64 (i:Int) ∧ st1 = ⟨h0,n0,[]⟩ ∧ sg (Tm.cmps (xs.drop i) (xs'.drop i)) = sg (Tm.cmps xs xs')) xs.length ?_ ?_ (Nat.zero_le _) ?_
 ·rintro i T _ hi ⟨t2,t3,t7,rfl,hr⟩
  have hj:i < xs'.length:=by omega
  obtain ⟨a,ha⟩:∃ a,xs[i]? = some a:=⟨_,List.getElem?_eq_getElem hi⟩
  obtain ⟨b,hb⟩:∃ b,xs'[i]? = some b:=⟨_,List.getElem?_eq_getElem hj⟩
  have ga:=Tm.get ha
  have gb:=Tm.get hb
  have hc:=ih a (List.mem_of_getElem? ha) b (List.mem_of_getElem? hb)
  have hi2:=wrapUp (show i < 9223372036854775807 by unfold Big at hl; omega)
  rw [drop_cons ha,drop_cons hb,Tm.cmps,sg_or0] at hr
  by_cases z:a.cmp b = 0
  ·rw [if_pos z] at hr
   rw [z] at hc
   have hc':Ret Q 116 [a.av,b.av] (.int .i64 0):=hc
   obtain ⟨kd1,n1,nm1,k1,xs1⟩:=a
   obtain ⟨kd2,n2,nm2,k2,xs2⟩:=b
   rw [Tm.av] at ga gb
   rw [Tm.av,Tm.av] at hc'
   simp only [RS,RT,RZ,Zu,rA,rB,rC,rD,rE,rF,reduceCtorEq,Zw,l53_0,m53_0,kd53_0,k53_0,kd53_1,k53_1,t2,t3,t7,hp,hq,hi,hj,ga,gb,hc',hi2,Tm.len,hr]
  ·rw [if_neg z] at hr
   have zn:(sg (a.cmp b) != 0) = true:=by rw [bne_iff_ne]; exact fun h => z (sg_z.1 h)
   rw [← hr]
   generalize sg (a.cmp b) = s at hc zn ⊢
   obtain ⟨kd1,n1,nm1,k1,xs1⟩:=a
   obtain ⟨kd2,n2,nm2,k2,xs2⟩:=b
   rw [Tm.av] at ga gb
   rw [Tm.av,Tm.av] at hc
   simp only [RS,RT,RZ,Zu,rA,rB,rC,rD,rE,rF,reduceCtorEq,Zw,l53_0,m53_0,kd53_0,k53_0,kd53_1,k53_1,t2,t3,t7,hp,hq,hi,hj,ga,gb,hc,hi2,Tm.len,zn]
 ·rintro T _ ⟨t2,t3,t7,rfl,hr⟩
  rw [List.drop_length,he,List.drop_length] at hr
  have hr':(0:Int) = sg (Tm.cmps xs xs'):=hr
  simp only [RS,RT,RZ,Zu,rA,rB,rC,rD,rE,rF,reduceCtorEq,Zw,l53_0,m53_0,kd53_0,k53_0,kd53_1,k53_1,t2,t3,t7,hp,Tm.len,hr'.symm]
 ·rw [List.drop_zero,List.drop_zero]
  exact ⟨h2,h3,h7,rfl,rfl⟩
theorem loop53b {kd kd':Int} {nm nm':List Nat} {ka ka':SK} {xs xs':List Tm} {ty ty':Ty} {kl kl':SK} {ls ls':List Fo} {p q:Nat} (hl:ls.length < Big) (he:ls.length = ls'.length)
  (ih:∀ a ∈ ls,∀ b ∈ ls',Ret Q 53 [a.av,b.av] (.int .i64 (sg (a.cmp b)))) {T0:Nat → AV} {h0:Nat → AO} {n0:Nat}
  (h2:T0 2 = .ptr p 0) (h3:T0 3 = .ptr q 0) (h7:T0 8 = .int .i64 0)
  (hp:h0 p = .mem 28 [.int .i64 kd,.str nm,.slice ka (Tm.avs xs),.str ty.nm,.slice ty.k (Ty.avs ty.xs),.slice kl (Fo.avs ls)] true 0)
  (hq:h0 q = .mem 28 [.int .i64 kd',.str nm',.slice ka' (Tm.avs xs'),.str ty'.nm,.slice ty'.k (Ty.avs ty'.xs),.slice kl' (Fo.avs ls')] true 0) :
  Post 100 [] none (execY (callW Q) Q false 53 none (.loop l53_1) ⟨T0,100,[],none⟩ ⟨h0,n0,[]⟩) fun e T st1 => st1 = ⟨h0,n0,[]⟩ ∧ ((e = .exit 2 ∧ sg (Fo.cmps ls ls') = 0) ∨ (e = .ret ∧ T 4 = .int .i64 (sg (Fo.cmps ls ls')))):=by
 refine post_for (I:=fun i T st1 => T 2 = .ptr p 0 ∧ T 3 = .ptr q 0 ∧ T 8 = .int .i64 (i:Int) ∧ st1 = ⟨h0,n0,[]⟩ ∧ sg (Fo.cmps (ls.drop i) (ls'.drop i)) = sg (Fo.cmps ls ls')) ls.length ?_ ?_ (Nat.zero_le _) ?_
 ·rintro i T _ hi ⟨t2,t3,t7,rfl,hr⟩
  have hj:i < ls'.length:=by omega
  obtain ⟨a,ha⟩:∃ a,ls[i]? = some a:=⟨_,List.getElem?_eq_getElem hi⟩
  obtain ⟨b,hb⟩:∃ b,ls'[i]? = some b:=⟨_,List.getElem?_eq_getElem hj⟩
  have ga:=Fo.get ha
  have gb:=Fo.get hb
  have hc:=ih a (List.mem_of_getElem? ha) b (List.mem_of_getElem? hb)
  have hi2:=wrapUp (show i < 9223372036854775807 by unfold Big at hl; omega)
  rw [drop_cons ha,drop_cons hb,Fo.cmps,sg_or0] at hr
  by_cases z:a.cmp b = 0
  ·rw [if_pos z] at hr
   rw [z] at hc
   have hc':Ret Q 53 [a.av,b.av] (.int .i64 0):=hc
   obtain ⟨kd1,nm1,ka1,xs1,ty1,kl1,ls1⟩:=a
   obtain ⟨kd2,nm2,ka2,xs2,ty2,kl2,ls2⟩:=b
   rw [Fo.av] at ga gb
   rw [Fo.av,Fo.av] at hc'
   simp only [RS,RT,RZ,Zu,rA,rB,rC,rD,rE,rF,reduceCtorEq,Zw,l53_1,m53_1,kd53_0,k53_0,kd53_1,k53_1,t2,t3,t7,hp,hq,hi,hj,ga,gb,hc',hi2,Fo.len,hr]
  ·rw [if_neg z] at hr
   have zn:(sg (a.cmp b) != 0) = true:=by rw [bne_iff_ne]; exact fun h => z (sg_z.1 h)
   rw [← hr]
   generalize sg (a.cmp b) = s at hc zn ⊢
   obtain ⟨kd1,nm1,ka1,xs1,ty1,kl1,ls1⟩:=a
   obtain ⟨kd2,nm2,ka2,xs2,ty2,kl2,ls2⟩:=b
   rw [Fo.av] at ga gb
   rw [Fo.av,Fo.av] at hc
   simp only [RS,RT,RZ,Zu,rA,rB,rC,rD,rE,rF,reduceCtorEq,Zw,l53_1,m53_1,kd53_0,k53_0,kd53_1,k53_1,t2,t3,t7,hp,hq,hi,hj,ga,gb,hc,hi2,Fo.len,zn]
 ·rintro T _ ⟨t2,t3,t7,rfl,hr⟩
  rw [List.drop_length,he,List.drop_length] at hr
  have hr':(0:Int) = sg (Fo.cmps ls ls'):=hr
  simp only [RS,RT,RZ,Zu,rA,rB,rC,rD,rE,rF,reduceCtorEq,Zw,l53_1,m53_1,kd53_0,k53_0,kd53_1,k53_1,t2,t3,t7,hp,Fo.len,hr'.symm]
 ·rw [List.drop_zero,List.drop_zero]
  exact ⟨h2,h3,h7,rfl,rfl⟩
theorem fcmp53 (f:Fo):f.Ok → f.shp = true → ∀ g:Fo,g.Ok → g.shp = true → Ret Q 53 [f.av,g.av] (.int .i64 (sg (f.cmp g))):=by
 induction f using Fo.ind with
 | _ kd nm ka xs ty kl ls ih =>
 rintro hok hsh ⟨kd',nm',ka',xs',ty',kl',ls'⟩ hok' hsh' st
 refine callY (N:=100) (ok53 hK) (hK.nx _ _ _ rfl) rfl rfl ?_
 obtain ⟨_,_,_,hl,hoks,hty,_,hl2,hoks2⟩:=hok
 obtain ⟨_,_,_,hl',hoks',hty',_,hl2',hoks2'⟩:=hok'
 have F:=shp_facts hsh
 have G:=shp_facts hsh'
 have hq:=isq60 hK (kd:=kd)
 have f1:=order114 hK (a:=kd) (b:=kd')
 have f2:=strings115 hK (a:=nm) (b:=nm')
 have f3:=order114 hK (a:=(xs.length:Int)) (b:=(xs'.length:Int))
 have hct:Ret Q 113 [.agg [.str ty.nm,.slice ty.k (Ty.avs ty.xs)],.agg [.str ty'.nm,.slice ty'.k (Ty.avs ty'.xs)]] (.int .i64 (sg (ty.cmp ty'))):=by
  have:=ctype113 hK ty ty' hty hty'
  obtain ⟨a,b,c⟩:=ty
  obtain ⟨a',b',c'⟩:=ty'
  exact this
 rw [Fo.av,Fo.av,Fo.cmp]
 by_cases e1:kd = kd'
 ·subst e1
  rw [if_pos rfl]
  have e1':(kd != kd) = false:=by simp
  have he:ls.length = ls'.length:=by have:=F.pr; have:=G.pr; omega
  have L:=@loop53b Q hK kd kd nm nm' ka ka' xs xs' ty ty' kl kl' ls ls' st.next (st.next + 1) hl2 he fun a ha b hb => ih a ha (Fo.oks hoks2 _ ha) (F.sub a ha) b (Fo.oks hoks2' _ hb) (G.sub b hb)
  by_cases k1:kd = 1
  ·subst k1
   rw [if_pos rfl,sg_or0,sg_or0,sg_cmpN,sg_sub]
   cases e2:(nm == nm') with
   | false =>
    have e2':=bne_ e2
    rw [if_neg (show ¬ cmpN nm nm' = 0 by rw [cmpN_z]; simpa using e2)]
    simp only [RS,RT,RZ,Zu,rA,rB,rC,rD,rE,rF,reduceCtorEq,Zw,x53,y53,kd53_0,k53_0,kd53_1,k53_1,F53,Tm.len,Fo.len,e1',e2,e2',f2,Int.reduceBEq]
   | true =>
    have e2':=bne_ e2
    rw [if_pos (show cmpN nm nm' = 0 by rw [cmpN_z]; simpa using e2)]
    cases e3:((xs.length:Int) == (xs'.length:Int)) with
    | false =>
     have e3':=bneI e3
     rw [if_neg (show ¬ (xs.length:Int) - xs'.length = 0 by rw [beq_eq_false_iff_ne] at e3; omega)]
     simp only [RS,RT,RZ,Zu,rA,rB,rC,rD,rE,rF,reduceCtorEq,Zw,x53,y53,kd53_0,k53_0,kd53_1,k53_1,F53,Tm.len,Fo.len,e1',e2,e2',e3,e3',f3,Int.reduceBEq]
    | true =>
     have e3':=bneI e3
     have hx:xs.length = xs'.length:=by rw [beq_iff_eq] at e3; omega
     rw [if_pos (show (xs.length:Int) - xs'.length = 0 by omega),cmpl_eq hx]
     simp only [RS,RT,RZ,Zu,rA,rB,rC,rD,rE,rF,reduceCtorEq,Zw,x53,y53,kd53_0,k53_0,kd53_1,k53_1,F53,Tm.len,Fo.len,e1',e2,e2',e3,e3',Int.reduceBEq]
     refine post_bind (@loop53a Q hK 1 1 nm nm' ka ka' xs xs' ty ty' kl kl' ls ls' st.next (st.next + 1) hl hx (fun a ha b hb => tcmp116 hK (Tm.oks hoks _ ha) (Tm.oks hoks' _ hb) (F.raw rfl a ha) (G.raw rfl b hb)) _ _ _ (by simp only [RS,RT,RZ,Zu,rA,rB,rC,rD,rE,rF,reduceCtorEq,Zw,]) (by simp only [RS,RT,RZ,Zu,rA,rB,rC,rD,rE,rF,reduceCtorEq,Zw,]) (by simp only [RS,RT,RZ,Zu,rA,rB,rC,rD,rE,rF,reduceCtorEq,Zw,]) (by simp only [RS,RT,RZ,Zu,rA,rB,rC,rD,rE,rF,reduceCtorEq,Zw,]) (by simp only [RS,RT,RZ,Zu,rA,rB,rC,rD,rE,rF,reduceCtorEq,Zw,])) ?_
     rintro e T st1 ⟨rfl,⟨rfl,h⟩ | ⟨rfl,h⟩⟩
     ·simp only [RS,RT,RZ,Zu,rA,rB,rC,rD,rE,rF,reduceCtorEq,Zw,h]
     ·simp only [RS,RT,RZ,Zu,rA,rB,rC,rD,rE,rF,reduceCtorEq,Zw,h]
  ·have k1':(kd == 1) = false:=beq_false_of_ne k1
   rw [if_neg k1,sg_or0]
   cases q:isQ kd with
   | true =>
    by_cases z:ty.cmp ty' = 0
    ·rw [if_pos z]
     rw [z] at hct
     have hct':Ret Q 113 [.agg [.str ty.nm,.slice ty.k (Ty.avs ty.xs)],.agg [.str ty'.nm,.slice ty'.k (Ty.avs ty'.xs)]] (.int .i64 0):=hct
     simp only [RS,RT,RZ,Zu,rA,rB,rC,rD,rE,rF,reduceCtorEq,Zw,x53,y53,kd53_0,k53_0,kd53_1,k53_1,F53,Tm.len,Fo.len,hq,q,e1',k1',hct']
     refine post_bind (L (by simp only [RS,RT,RZ,Zu,rA,rB,rC,rD,rE,rF,reduceCtorEq,Zw,]) (by simp only [RS,RT,RZ,Zu,rA,rB,rC,rD,rE,rF,reduceCtorEq,Zw,]) (by simp only [RS,RT,RZ,Zu,rA,rB,rC,rD,rE,rF,reduceCtorEq,Zw,]) (by simp only [RS,RT,RZ,Zu,rA,rB,rC,rD,rE,rF,reduceCtorEq,Zw,]) (by simp only [RS,RT,RZ,Zu,rA,rB,rC,rD,rE,rF,reduceCtorEq,Zw,])) ?_
     rintro e T st1 ⟨rfl,⟨rfl,h⟩ | ⟨rfl,h⟩⟩
     ·simp only [RS,RT,RZ,Zu,rA,rB,rC,rD,rE,rF,reduceCtorEq,Zw,h]
     ·simp only [RS,RT,RZ,Zu,rA,rB,rC,rD,rE,rF,reduceCtorEq,Zw,h]
    ·rw [if_neg z]
     have zn:(sg (ty.cmp ty') != 0) = true:=by rw [bne_iff_ne]; exact fun h => z (sg_z.1 h)
     generalize sg (ty.cmp ty') = s at *
     simp only [RS,RT,RZ,Zu,rA,rB,rC,rD,rE,rF,reduceCtorEq,Zw,x53,y53,kd53_0,k53_0,kd53_1,k53_1,F53,Tm.len,Fo.len,hq,q,e1',k1',hct,zn]
   | false =>
    rw [if_pos (ty_zero (F.ty0 q) (G.ty0 q))]
    simp only [RS,RT,RZ,Zu,rA,rB,rC,rD,rE,rF,reduceCtorEq,Zw,x53,y53,kd53_0,k53_0,kd53_1,k53_1,F53,Tm.len,Fo.len,hq,q,e1',k1']
    refine post_bind (L (by simp only [RS,RT,RZ,Zu,rA,rB,rC,rD,rE,rF,reduceCtorEq,Zw,]) (by simp only [RS,RT,RZ,Zu,rA,rB,rC,rD,rE,rF,reduceCtorEq,Zw,]) (by simp only [RS,RT,RZ,Zu,rA,rB,rC,rD,rE,rF,reduceCtorEq,Zw,]) (by simp only [RS,RT,RZ,Zu,rA,rB,rC,rD,rE,rF,reduceCtorEq,Zw,]) (by simp only [RS,RT,RZ,Zu,rA,rB,rC,rD,rE,rF,reduceCtorEq,Zw,])) ?_
    rintro e T st1 ⟨rfl,⟨rfl,h⟩ | ⟨rfl,h⟩⟩
    ·simp only [RS,RT,RZ,Zu,rA,rB,rC,rD,rE,rF,reduceCtorEq,Zw,h]
    ·simp only [RS,RT,RZ,Zu,rA,rB,rC,rD,rE,rF,reduceCtorEq,Zw,h]
 ·have e1':(kd != kd') = true:=by rw [bne_iff_ne]; exact e1
  rw [if_neg e1,sg_sub]
  simp only [RS,RT,RZ,Zu,rA,rB,rC,rD,rE,rF,reduceCtorEq,Zw,x53,y53,kd53_0,k53_0,kd53_1,k53_1,F53,Tm.len,Fo.len,e1',f1]
theorem rsame14 {f g:Fo} (hf:f.Ok) (hg:g.Ok):Ret Q 14 [f.av,g.av] (.bool ((rawFo f == 0) && ((rawFo g == 0) && (f.cmp g == 0)))):=fun st => by
 refine callY (N:=18) (ok14 hK) (hK.nx _ _ _ rfl) rfl rfl ?_
 have h1:=rraw8 hK hf
 have h2:=rraw8 hK hg
 have h3:rawFo f = 0 → rawFo g = 0 → Ret Q 51 [f.av,g.av] (.bool (f.cmp g == 0)):=fun rf rg => same51 hK f hf (raw_shp rf) g hg (raw_shp rg)
 generalize rawFo f = x at *
 generalize rawFo g = y at *
 generalize (f.cmp g == 0) = z at *
 obtain ⟨kd,nm,ka,xs,ty,kl,ls⟩:=f
 obtain ⟨kd',nm',ka',xs',ty',kl',ls'⟩:=g
 simp only [Fo.av] at h1 h2 h3
 cases e1:(x == (0:Int)) with
 | false => simp only [RS,RT,RZ,Zu,rA,rB,rC,rD,rE,rF,reduceCtorEq,Zw,x14,F14,Fo.av,h1,h2,e1,Bool.false_and]
 | true =>
  cases e2:(y == (0:Int)) with
  | false => simp only [RS,RT,RZ,Zu,rA,rB,rC,rD,rE,rF,reduceCtorEq,Zw,x14,F14,Fo.av,h1,h2,e1,e2,Bool.true_and,Bool.false_and]
  | true =>
   have h4:=h3 (beq_iff_eq.1 e1) (beq_iff_eq.1 e2)
   simp only [RS,RT,RZ,Zu,rA,rB,rC,rD,rE,rF,reduceCtorEq,Zw,x14,F14,Fo.av,h1,h2,h4,e1,e2,Bool.true_and]
theorem rcmp16 {f g:Fo} (hf:f.Ok) (hg:g.Ok):Ret Q 16 [f.av,g.av] (.int .i64 (if rawFo f = 0 then (if rawFo g = 0 then sg (f.cmp g) else 1) else (if rawFo g = 0 then -1 else 0))):=fun st => by
 refine callY (N:=22) (ok16 hK) (hK.nx _ _ _ rfl) rfl rfl ?_
 have h1:=rraw8 hK hf
 have h2:=rraw8 hK hg
 have h3:rawFo f = 0 → rawFo g = 0 → Ret Q 53 [f.av,g.av] (.int .i64 (sg (f.cmp g))):=fun rf rg => fcmp53 hK f hf (raw_shp rf) g hg (raw_shp rg)
 generalize rawFo f = x at *
 generalize rawFo g = y at *
 generalize sg (f.cmp g) = z at *
 obtain ⟨kd,nm,ka,xs,ty,kl,ls⟩:=f
 obtain ⟨kd',nm',ka',xs',ty',kl',ls'⟩:=g
 simp only [Fo.av] at h1 h2 h3
 by_cases r1:x = 0
 ·have e1:(x == (0:Int)) = true:=beq_iff_eq.2 r1
  rw [if_pos r1]
  by_cases r2:y = 0
  ·have e2:(y == (0:Int)) = true:=beq_iff_eq.2 r2
   have h4:=h3 r1 r2
   rw [if_pos r2]
   simp only [RS,RT,RZ,Zu,rA,rB,rC,rD,rE,rF,reduceCtorEq,Zw,x16,F16,Fo.av,h1,h2,h4,e1,e2]
  ·have e2:(y == (0:Int)) = false:=beq_false_of_ne r2
   rw [if_neg r2]
   simp only [RS,RT,RZ,Zu,rA,rB,rC,rD,rE,rF,reduceCtorEq,Zw,x16,F16,Fo.av,h1,h2,e1,e2]
 ·have e1:(x == (0:Int)) = false:=beq_false_of_ne r1
  rw [if_neg r1]
  by_cases r2:y = 0
  ·have e2:(y == (0:Int)) = true:=beq_iff_eq.2 r2
   rw [if_pos r2]
   simp only [RS,RT,RZ,Zu,rA,rB,rC,rD,rE,rF,reduceCtorEq,Zw,x16,F16,Fo.av,h1,h2,e1,e2]
  ·have e2:(y == (0:Int)) = false:=beq_false_of_ne r2
   rw [if_neg r2]
   simp only [RS,RT,RZ,Zu,rA,rB,rC,rD,rE,rF,reduceCtorEq,Zw,x16,F16,Fo.av,h1,h2,e1,e2]
end
end Go.Proofs.L06

namespace Go.Proofs.L06
open Go Go.AE
open Nat renaming reduceLT → rA,reduceLeDiff → rB,reduceEqDiff → rC,reduceMul → rD,reduceAdd → rE,reduceSub → rF
set_option maxHeartbeats 8000000
section
variable {Q:Ctx} (hK:K Q)
include hK
theorem psame13 {f g:Fo} (hf:f.Ok) (hg:g.Ok):Ret Q 13 [f.av,g.av] (.bool ((rawFo f == 0) && ((rawFo g == 0) && (f.cmp g == 0)))):=fun st => by
 refine callY (N:=19) (ok13 hK) (hK.nx _ _ _ rfl) rfl rfl ?_
 have h1:=rawFo_c hK hf
 have h2:=rawFo_c hK hg
 have h3:rawFo f = 0 → rawFo g = 0 → Ret Q 50 [f.av,g.av] (.int .i64 (f.cmp g)):=fun rf rg => cmp50 hK f hf (raw_shp rf) g hg (raw_shp rg)
 generalize rawFo f = x at *
 generalize rawFo g = y at *
 generalize f.cmp g = z at *
 obtain ⟨kd,nm,ka,xs,ty,kl,ls⟩:=f
 obtain ⟨kd',nm',ka',xs',ty',kl',ls'⟩:=g
 simp only [Fo.av] at h1 h2 h3
 cases e1:(x == (0:Int)) with
 | false => simp only [RS,RT,RZ,Zu,rA,rB,rC,rD,rE,rF,reduceCtorEq,Zw,x13,F13,Fo.av,h1,h2,e1,Bool.false_and]
 | true =>
  cases e2:(y == (0:Int)) with
  | false => simp only [RS,RT,RZ,Zu,rA,rB,rC,rD,rE,rF,reduceCtorEq,Zw,x13,F13,Fo.av,h1,h2,e1,e2,Bool.true_and,Bool.false_and]
  | true =>
   have h4:=h3 (beq_iff_eq.1 e1) (beq_iff_eq.1 e2)
   simp only [RS,RT,RZ,Zu,rA,rB,rC,rD,rE,rF,reduceCtorEq,Zw,x13,F13,Fo.av,h1,h2,h4,e1,e2,Bool.true_and]
theorem pcmp15 {f g:Fo} (hf:f.Ok) (hg:g.Ok):Ret Q 15 [f.av,g.av] (.int .i64 (if rawFo f = 0 then (if rawFo g = 0 then sg (f.cmp g) else 1) else (if rawFo g = 0 then -1 else 0))):=fun st => by
 by_cases r1:rawFo f = 0
 ·by_cases r2:rawFo g = 0
  ·rw [if_pos r1,if_pos r2]
   exact cmp15 hK hf hg r1 r2 st
  ·rw [if_pos r1,if_neg r2]
   refine callY (N:=26) (ok15 hK) (hK.nx _ _ _ rfl) rfl rfl ?_
   have h1:=rawFo_c hK hf
   have h2:=rawFo_c hK hg
   have e1:(rawFo f == (0:Int)) = true:=beq_iff_eq.2 r1
   have e2:(rawFo g == (0:Int)) = false:=beq_false_of_ne r2
   generalize rawFo f = x at *
   generalize rawFo g = y at *
   obtain ⟨kd,nm,ka,xs,ty,kl,ls⟩:=f
   obtain ⟨kd',nm',ka',xs',ty',kl',ls'⟩:=g
   simp only [Fo.av] at h1 h2
   simp only [RS,RT,RZ,Zu,rA,rB,rC,rD,rE,rF,reduceCtorEq,Zw,x15,y15,kd15_0,k15_0,F15,Fo.av,h1,h2,e1,e2]
 ·rw [if_neg r1]
  have h1:=rawFo_c hK hf
  have h2:=rawFo_c hK hg
  have e1:(rawFo f == (0:Int)) = false:=beq_false_of_ne r1
  by_cases r2:rawFo g = 0
  ·rw [if_pos r2]
   refine callY (N:=26) (ok15 hK) (hK.nx _ _ _ rfl) rfl rfl ?_
   have e2:(rawFo g == (0:Int)) = true:=beq_iff_eq.2 r2
   generalize rawFo f = x at *
   generalize rawFo g = y at *
   obtain ⟨kd,nm,ka,xs,ty,kl,ls⟩:=f
   obtain ⟨kd',nm',ka',xs',ty',kl',ls'⟩:=g
   simp only [Fo.av] at h1 h2
   simp only [RS,RT,RZ,Zu,rA,rB,rC,rD,rE,rF,reduceCtorEq,Zw,x15,y15,kd15_0,k15_0,F15,Fo.av,h1,h2,e1,e2]
  ·rw [if_neg r2]
   refine callY (N:=26) (ok15 hK) (hK.nx _ _ _ rfl) rfl rfl ?_
   have e2:(rawFo g == (0:Int)) = false:=beq_false_of_ne r2
   generalize rawFo f = x at *
   generalize rawFo g = y at *
   obtain ⟨kd,nm,ka,xs,ty,kl,ls⟩:=f
   obtain ⟨kd',nm',ka',xs',ty',kl',ls'⟩:=g
   simp only [Fo.av] at h1 h2
   simp only [RS,RT,RZ,Zu,rA,rB,rC,rD,rE,rF,reduceCtorEq,Zw,x15,y15,kd15_0,k15_0,F15,Fo.av,h1,h2,e1,e2]
end
end Go.Proofs.L06
