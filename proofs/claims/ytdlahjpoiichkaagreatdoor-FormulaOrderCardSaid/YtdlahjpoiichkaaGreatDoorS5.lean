/- The order and the texts of formulas, plainly. -/
import Derived.Test.YtdlahjpoiichkaaGreatDoorS4
set_option linter.unusedVariables false
set_option linter.unusedSimpArgs false
set_option linter.unusedSectionVars false
namespace Go.Proofs.L06
open Go Go.AE
open Nat (reduceLT reduceLeDiff reduceEqDiff reduceMul reduceAdd reduceSub)
set_option maxHeartbeats 8000000
def cmpI (a b:Int):Int:=if a < b then -1 else if b < a then 1 else 0
def cmpN:List Nat → List Nat → Int
 | [],[] => 0
 | [],_ :: _ => -1
 | _ :: _,[] => 1
 | a :: x,b :: y => if a < b then -1 else if b < a then 1 else cmpN x y
def or0 (a b:Int):Int:=if a = 0 then b else a
mutual
def Ty.cmp:Ty → Ty → Int
 | .mk a _ xs,.mk b _ ys => or0 (cmpN a b) (or0 ((xs.length:Int) - ys.length) (Ty.cmps xs ys))
def Ty.cmps:List Ty → List Ty → Int
 | [],ys => -(ys.length:Int)
 | x :: xs,[] => (xs.length:Int) + 1
 | x :: xs,y :: ys => or0 (x.cmp y) (Ty.cmps xs ys)
end
mutual
def Tm.cmp:Tm → Tm → Int
 | .mk kd n nm _ xs,.mk kd' n' nm' _ ys => or0 (or0 (cmpI kd kd') (or0 (cmpI n n') (or0 (cmpN nm nm') (cmpI xs.length ys.length)))) (Tm.cmps xs ys)
def Tm.cmps:List Tm → List Tm → Int
 | [],[] => 0
 | [],_ :: _ => -1
 | _ :: _,[] => 1
 | x :: xs,y :: ys => or0 (x.cmp y) (Tm.cmps xs ys)
end
def Tm.cmpl:List Tm → List Tm → Int
 | [],ys => -(ys.length:Int)
 | x :: xs,[] => (xs.length:Int) + 1
 | x :: xs,y :: ys => or0 (x.cmp y) (Tm.cmpl xs ys)
mutual
def Fo.cmp:Fo → Fo → Int
 | .mk kd nm _ xs ty _ ls,.mk kd' nm' _ xs' ty' _ ls' =>
  if kd = kd' then
   (if kd = 1 then or0 (cmpN nm nm') (or0 ((xs.length:Int) - xs'.length) (Tm.cmpl xs xs')) else or0 (ty.cmp ty') (Fo.cmps ls ls'))
  else kd - kd'
def Fo.cmps:List Fo → List Fo → Int
 | [],ys => -(ys.length:Int)
 | x :: xs,[] => (xs.length:Int) + 1
 | x :: xs,y :: ys => or0 (x.cmp y) (Fo.cmps xs ys)
end
def sg (n:Int):Int:=max (-1) (min 1 n)
theorem sg_0:sg 0 = 0:=rfl
theorem sg_z {a:Int}:sg a = 0 ↔ a = 0:=by unfold sg; omega
theorem or0_z {a b:Int}:or0 a b = 0 ↔ a = 0 ∧ b = 0:=by unfold or0; split <;> simp_all
theorem sg_cmpI (a b:Int):sg (cmpI a b) = cmpI a b:=by unfold sg cmpI; split <;> (try split) <;> omega
theorem cmpI_z {a b:Int}:cmpI a b = 0 ↔ a = b:=by unfold cmpI; split <;> (try split) <;> omega
theorem sg_cmpN:∀ a b:List Nat,sg (cmpN a b) = cmpN a b
 | [],[] => rfl
 | [],_ :: _ => rfl
 | _ :: _,[] => rfl
 | a :: x,b :: y => by
  rw [cmpN]
  split
  ·rfl
  ·split
   ·rfl
   ·exact sg_cmpN x y
theorem cmpN_z:∀ {a b:List Nat},cmpN a b = 0 ↔ a = b
 | [],[] => by simp [cmpN]
 | [],_ :: _ => by simp [cmpN]
 | _ :: _,[] => by simp [cmpN]
 | a :: x,b :: y => by
  rw [cmpN]
  split
  ·rename_i h; constructor
   ·intro h2; cases h2
   ·intro h2; rw [List.cons.injEq] at h2; omega
  ·split
   ·rename_i h; constructor
    ·intro h2; cases h2
    ·intro h2; rw [List.cons.injEq] at h2; omega
   ·rw [cmpN_z,List.cons.injEq]; constructor
    ·intro h; exact ⟨by omega,h⟩
    ·intro h; exact h.2
def lexI:List Int → List Int → Int
 | [],[] => 0
 | [],_ :: _ => -1
 | _ :: _,[] => 1
 | a :: x,b :: y => if a < b then -1 else if b < a then 1 else lexI x y
theorem lexI_int (x y:Int) (r s:List Int):lexI (x :: r) (y :: s) = if cmpI x y = 0 then lexI r s else cmpI x y:=by
 rw [lexI,cmpI]
 by_cases h1:x < y
 ·simp [h1]
 ·by_cases h2:y < x <;> simp [h1,h2]
theorem lexI_sub (x y:Int) (r s:List Int):lexI (x :: r) (y :: s) = if x - y = 0 then lexI r s else sg (x - y):=by
 rw [lexI,sg]
 by_cases h1:x < y
 ·rw [if_pos h1,if_neg (by omega)]; omega
 ·by_cases h2:y < x
  ·rw [if_neg h1,if_pos h2,if_neg (by omega)]; omega
  ·rw [if_neg h1,if_neg h2,if_pos (by omega)]
def skey (s:List Nat):List Int:=s.map (fun (c:Nat) => (c:Int) + 1) ++ [0]
theorem lexI_str:∀ (a b:List Nat) (r s:List Int),lexI (skey a ++ r) (skey b ++ s) = if cmpN a b = 0 then lexI r s else cmpN a b
 | [],[],r,s => by simp [skey,lexI,cmpN]
 | [],b :: y,r,s => by
  simp only [skey,List.map_nil,List.nil_append,List.map_cons,List.cons_append,lexI,cmpN]
  rw [if_pos (by omega)]; rfl
 | a :: x,[],r,s => by
  simp only [skey,List.map_nil,List.nil_append,List.map_cons,List.cons_append,lexI,cmpN]
  rw [if_neg (by omega),if_pos (by omega)]; rfl
 | a :: x,b :: y,r,s => by
  have ih:=lexI_str x y r s
  have h0:∀ (c:Nat) (z:List Nat),skey (c :: z) = ((c:Int) + 1) :: skey z:=fun c z => rfl
  rw [h0,h0,List.cons_append,List.cons_append,lexI]
  by_cases h1:a < b
  ·have e:cmpN (a :: x) (b :: y) = -1:=by rw [cmpN,if_pos h1]
   rw [if_pos (by omega),if_neg (by rw [e]; decide),e]
  ·by_cases h2:b < a
   ·have e:cmpN (a :: x) (b :: y) = 1:=by rw [cmpN,if_neg h1,if_pos h2]
    rw [if_neg (by omega),if_pos (by omega),if_neg (by rw [e]; decide),e]
   ·have e:cmpN (a :: x) (b :: y) = cmpN x y:=by rw [cmpN,if_neg h1,if_neg h2]
    rw [if_neg (by omega),if_neg (by omega),ih,e]
mutual
def Ty.key:Ty → List Int | .mk nm _ xs => skey nm ++ ((xs.length:Int) :: Ty.keys xs)
def Ty.keys:List Ty → List Int | [] => [] | t :: r => t.key ++ Ty.keys r
end
mutual
def Tm.key:Tm → List Int | .mk kd n nm _ xs => kd :: n :: (skey nm ++ ((xs.length:Int) :: Tm.keys xs))
def Tm.keys:List Tm → List Int | [] => [] | t :: r => t.key ++ Tm.keys r
end
mutual
def Fo.key:Fo → List Int
 | .mk kd nm _ xs ty _ ls => kd :: (if kd = 1 then skey nm ++ ((xs.length:Int) :: Tm.keys xs) else ty.key ++ Fo.keys ls)
def Fo.keys:List Fo → List Int | [] => [] | t :: r => t.key ++ Fo.keys r
end
theorem if_or0 {a b:Int} {x:Int} (y:Int) (hb:y = if b = 0 then x else sg b):(if a = 0 then y else sg a) = if or0 a b = 0 then x else sg (or0 a b):=by
 subst hb
 unfold or0
 by_cases h:a = 0
 ·rw [if_pos h,if_pos h]
 ·rw [if_neg h,if_neg h,if_neg h]
theorem lexI_sub' (x y:Int) {r s:List Int} {z b:Int} (h:x - y = 0 → lexI r s = if b = 0 then z else sg b):lexI (x :: r) (y :: s) = if or0 (x - y) b = 0 then z else sg (or0 (x - y) b):=by
 rw [lexI_sub]
 unfold or0
 by_cases h1:x - y = 0
 ·rw [if_pos h1,if_pos h1,h h1]
 ·rw [if_neg h1,if_neg h1,if_neg h1]
theorem lexI_str' (x y:List Nat) {r s:List Int} {z b:Int} (h:lexI r s = if b = 0 then z else sg b):lexI (skey x ++ r) (skey y ++ s) = if or0 (cmpN x y) b = 0 then z else sg (or0 (cmpN x y) b):=by
 rw [lexI_str]
 unfold or0
 by_cases h1:cmpN x y = 0
 ·rw [if_pos h1,if_pos h1,h]
 ·rw [if_neg h1,if_neg h1,if_neg h1,sg_cmpN]
theorem lexI_int' (x y:Int) {r s:List Int} {z b:Int} (h:x = y → lexI r s = if b = 0 then z else sg b):lexI (x :: r) (y :: s) = if or0 (cmpI x y) b = 0 then z else sg (or0 (cmpI x y) b):=by
 rw [lexI_int]
 unfold or0
 by_cases h1:cmpI x y = 0
 ·rw [if_pos h1,if_pos h1,h (cmpI_z.1 h1)]
 ·rw [if_neg h1,if_neg h1,if_neg h1,sg_cmpI]
theorem or0_assoc (a b c:Int):or0 (or0 a b) c = or0 a (or0 b c):=by
 unfold or0
 by_cases h:a = 0
 ·simp only [if_pos h]
 ·simp only [if_neg h]
mutual
theorem Ty.lex:∀ (t u:Ty) (r s:List Int),lexI (t.key ++ r) (u.key ++ s) = if t.cmp u = 0 then lexI r s else sg (t.cmp u)
 | .mk a k xs,.mk b k' ys,r,s => by
  simp only [Ty.key,Ty.cmp,List.append_assoc,List.cons_append]
  exact lexI_str' _ _ (lexI_sub' _ _ fun h => Ty.lexs xs ys (by omega) r s)
theorem Ty.lexs:∀ (t u:List Ty),t.length = u.length → ∀ (r s:List Int),lexI (Ty.keys t ++ r) (Ty.keys u ++ s) = if Ty.cmps t u = 0 then lexI r s else sg (Ty.cmps t u)
 | [],[],_,r,s => by simp [Ty.keys,Ty.cmps]
 | [],_ :: _,h,r,s => by simp at h
 | _ :: _,[],h,r,s => by simp at h
 | x :: xs,y :: ys,h,r,s => by
  simp only [Ty.keys,Ty.cmps,List.append_assoc]
  rw [Ty.lex x y]
  exact if_or0 _ (Ty.lexs xs ys (by simpa using h) r s)
end
mutual
theorem Tm.lex:∀ (t u:Tm) (r s:List Int),lexI (t.key ++ r) (u.key ++ s) = if t.cmp u = 0 then lexI r s else sg (t.cmp u)
 | .mk kd n a k xs,.mk kd' n' b k' ys,r,s => by
  simp only [Tm.key,Tm.cmp,List.append_assoc,List.cons_append,or0_assoc]
  exact lexI_int' _ _ fun _ => lexI_int' _ _ fun _ => lexI_str' _ _ (lexI_int' _ _ fun h => Tm.lexs xs ys (by omega) r s)
theorem Tm.lexs:∀ (t u:List Tm),t.length = u.length → ∀ (r s:List Int),lexI (Tm.keys t ++ r) (Tm.keys u ++ s) = if Tm.cmps t u = 0 then lexI r s else sg (Tm.cmps t u)
 | [],[],_,r,s => by simp [Tm.keys,Tm.cmps]
 | [],_ :: _,h,r,s => by simp at h
 | _ :: _,[],h,r,s => by simp at h
 | x :: xs,y :: ys,h,r,s => by
  simp only [Tm.keys,Tm.cmps,List.append_assoc]
  rw [Tm.lex x y]
  exact if_or0 _ (Tm.lexs xs ys (by simpa using h) r s)
end
theorem Tm.cmpl_eq:∀ {t u:List Tm},t.length = u.length → Tm.cmpl t u = Tm.cmps t u
 | [],[],_ => by simp [Tm.cmpl,Tm.cmps]
 | [],_ :: _,h => by simp at h
 | _ :: _,[],h => by simp at h
 | x :: xs,y :: ys,h => by simp only [Tm.cmpl,Tm.cmps]; rw [Tm.cmpl_eq (by simpa using h)]
def parts (kd:Int):Int :=
 if kd = 1 ∨ kd = 2 ∨ kd = 3 then 0 else if kd = 4 ∨ kd = 5 ∨ kd = 6 ∨ kd = 7 ∨ kd = 8 then 2 else if kd = 9 ∨ kd = 10 ∨ kd = 11 ∨ kd = 12 then 1 else -1
mutual
def Fo.Pt:Fo → Prop | .mk kd _ _ _ _ _ ls => parts kd = (ls.length:Int) ∧ Fo.Pts ls
def Fo.Pts:List Fo → Prop | [] => True | t :: r => t.Pt ∧ Fo.Pts r
end
mutual
theorem Fo.lex:∀ (t u:Fo) (r s:List Int),t.Pt → u.Pt → lexI (t.key ++ r) (u.key ++ s) = if t.cmp u = 0 then lexI r s else sg (t.cmp u)
 | .mk kd nm ka xs ty kl ls,.mk kd' nm' ka' xs' ty' kl' ls',r,s,ht,hu => by
  simp only [Fo.Pt] at ht hu
  by_cases h:kd = kd'
  ·subst h
   simp only [Fo.key,Fo.cmp,List.append_assoc,List.cons_append]
   rw [lexI_int,if_pos (cmpI_z.2 rfl)]
   by_cases h1:kd = 1
   ·simp only [if_pos h1,if_true,List.append_assoc,List.cons_append]
    exact lexI_str' _ _ (lexI_sub' _ _ fun h => by rw [Tm.cmpl_eq (by omega)]; exact Tm.lexs xs xs' (by omega) r s)
   ·simp only [if_neg h1,if_true,List.append_assoc,List.cons_append]
    rw [Ty.lex]
    exact if_or0 _ (Fo.lexs ls ls' (by omega) r s ht.2 hu.2)
  ·have h':¬ kd - kd' = 0:=by omega
   have e:(Fo.mk kd nm ka xs ty kl ls).cmp (.mk kd' nm' ka' xs' ty' kl' ls') = kd - kd':=by rw [Fo.cmp,if_neg h]
   rw [if_neg (by rw [e]; exact h'),e,Fo.key,Fo.key,List.cons_append,List.cons_append,lexI_sub,if_neg h']
theorem Fo.lexs:∀ (t u:List Fo),t.length = u.length → ∀ (r s:List Int),Fo.Pts t → Fo.Pts u → lexI (Fo.keys t ++ r) (Fo.keys u ++ s) = if Fo.cmps t u = 0 then lexI r s else sg (Fo.cmps t u)
 | [],[],_,r,s,_,_ => by simp [Fo.keys,Fo.cmps]
 | [],_ :: _,h,r,s,_,_ => by simp at h
 | _ :: _,[],h,r,s,_,_ => by simp at h
 | x :: xs,y :: ys,h,r,s,ht,hu => by
  simp only [Fo.keys,Fo.cmps,List.append_assoc]
  rw [Fo.lex x y _ _ ht.1 hu.1]
  exact if_or0 _ (Fo.lexs xs ys (by simpa using h) r s ht.2 hu.2)
end
theorem lexI_anti:∀ a b:List Int,lexI a b = - lexI b a
 | [],[] => rfl
 | [],_ :: _ => rfl
 | _ :: _,[] => rfl
 | a :: x,b :: y => by
  simp only [lexI]
  have:=lexI_anti x y
  by_cases h1:a < b
  ·rw [if_pos h1,if_neg (by omega),if_pos h1]
  ·by_cases h2:b < a
   ·rw [if_neg h1,if_pos h2,if_pos h2]; rfl
   ·rw [if_neg h1,if_neg h2,if_neg h2,if_neg h1]; exact this
theorem lexI_self:∀ a:List Int,lexI a a = 0
 | [] => rfl
 | a :: x => by simp only [lexI,Int.lt_irrefl,if_false]; exact lexI_self x
theorem lexI_trans:∀ {a b c:List Int},lexI a b ≤ 0 → lexI b c ≤ 0 → lexI a c ≤ 0
 | [],b,[],_,_ => by simp [lexI]
 | [],b,_ :: _,_,_ => by simp [lexI]
 | a :: x,[],c,h,_ => by simp [lexI] at h
 | a :: x,b :: y,[],_,h => by simp [lexI] at h
 | a :: x,b :: y,c :: z,h1,h2 => by
  simp only [lexI] at h1 h2 ⊢
  have ih:=@lexI_trans x y z
  split at h1
  ·split at h2
   ·rw [if_pos (by omega)]; omega
   ·split at h2
    ·omega
    ·rw [if_pos (by omega)]; omega
  ·split at h1
   ·omega
   ·split at h2
    ·rw [if_pos (by omega)]; omega
    ·split at h2
     ·omega
     ·rw [if_neg (by omega),if_neg (by omega)]; exact ih h1 h2
theorem Fo.sgn {f g:Fo} (hf:f.Pt) (hg:g.Pt):sg (f.cmp g) = lexI f.key g.key:=by
 have:=Fo.lex f g [] [] hf hg
 rw [List.append_nil,List.append_nil] at this
 rw [this]
 by_cases h:f.cmp g = 0
 ·rw [if_pos h,h]; rfl
 ·rw [if_neg h]
theorem order_anti {f g:Fo} (hf:f.Pt) (hg:g.Pt):sg (f.cmp g) = - sg (g.cmp f):=by
 rw [Fo.sgn hf hg,Fo.sgn hg hf]; exact lexI_anti _ _
theorem order_self {f:Fo} (hf:f.Pt):f.cmp f = 0:=by
 rw [← sg_z,Fo.sgn hf hf]; exact lexI_self _
theorem order_le {f g h:Fo} (hf:f.Pt) (hg:g.Pt) (hh:h.Pt) (h1:sg (f.cmp g) ≤ 0) (h2:sg (g.cmp h) ≤ 0):sg (f.cmp h) ≤ 0:=by
 rw [Fo.sgn hf hg] at h1; rw [Fo.sgn hg hh] at h2; rw [Fo.sgn hf hh]; exact lexI_trans h1 h2
theorem order_ge {f g h:Fo} (hf:f.Pt) (hg:g.Pt) (hh:h.Pt) (h1:0 ≤ sg (f.cmp g)) (h2:0 ≤ sg (g.cmp h)):0 ≤ sg (f.cmp h):=by
 rw [order_anti hf hg] at h1; rw [order_anti hg hh] at h2; rw [order_anti hf hh]
 have:=order_le hh hg hf (by omega) (by omega)
 omega
end Go.Proofs.L06

namespace Go.Proofs.L06
open Go Go.AE
open Nat (reduceLT reduceLeDiff reduceEqDiff reduceMul reduceAdd reduceSub)
set_option maxHeartbeats 8000000
def NameOk (s:List Nat):Prop:=(∃ b r,s = b :: r ∧ 97 ≤ b ∧ b ≤ 122) ∧ (32 ∉ s) ∧ kwords.contains s = false ∧ s.length ≤ 40 ∧ ∀ c ∈ s,c < 256
theorem isP32:isP 32 = false:=by kernel_rfl
theorem letters_lt:(letters.all fun c => decide (c < 256)) = true:=by kernel_rfl
theorem isP_lt {c:Nat} (h:isP c = true):c < 256:=of_decide_eq_true (List.all_eq_true.1 letters_lt c (List.contains_iff_mem.1 h))
theorem runL_mem:∀ {s:List Nat} {c:Nat},c ∈ s.take (runL s) → isP c = true
 | [],c,h => by simp at h
 | b :: r,c,h => by
  unfold runL at h
  split at h
  ·rename_i hb
   rw [List.take_succ_cons] at h
   rcases List.mem_cons.1 h with rfl | h
   ·exact hb
   ·exact runL_mem h
  ·simp at h
theorem name_ok {s:List Nat} (h:chk1 1 s = true):NameOk s:=by
 rw [chk_eq (.inl rfl)] at h
 unfold rchk at h
 simp only [Bool.and_eq_true,decide_eq_true_iff,beq_iff_eq] at h
 obtain ⟨h0,h40,_,_,h1,h2,_⟩:=h
 obtain ⟨b,r,rfl⟩:∃ b r,s = b :: r:=by cases s with | nil => simp at h0 | cons b r => exact ⟨b,r,rfl⟩
 have h2':(rtok (b :: r)).2 = (b :: r).length:=by omega
 unfold rtok at h1 h2'
 have hT:tokF (b :: r) = some (1,(b :: r).length):=by
  cases e:tokF (b :: r) with
  | none => rw [e] at h1; cases h1
  | some x => rw [e] at h1 h2'; obtain ⟨k,n⟩:=x; simp only at h1 h2'; rw [h1,h2']
 unfold tokF at hT
 split at hT
 ·rename_i hs
  split at hT
  ·cases hT
  ·split at hT
   ·cases hT
   ·rename_i hk
    have hn:nameLen (b :: r) = (b :: r).length:=by injection hT with hT; injection hT
    rw [hn,List.take_length] at hk
    have hall:∀ c ∈ b :: r,isP c = true ∨ c = 64:=by
     intro c hc
     unfold nameLen at hn
     split at hn
     ·rename_i hd
      have hd2:=runL_le ((b :: r).drop (runL (b :: r) + 1))
      rw [List.length_drop] at hd2
      have e1:(b :: r) = (b :: r).take (runL (b :: r)) ++ (b :: r).getD (runL (b :: r)) 0 :: (b :: r).drop (runL (b :: r) + 1):=by
       have hlt:runL (b :: r) < (b :: r).length:=by omega
       rw [List.getD_eq_getElem?_getD,List.getElem?_eq_getElem hlt,Option.getD_some,← List.drop_eq_getElem_cons hlt,List.take_append_drop]
      rw [e1] at hc
      rcases List.mem_append.1 hc with hc | hc
      ·exact .inl (runL_mem hc)
      ·rcases List.mem_cons.1 hc with hc | hc
       ·rw [hd.2.1] at hc; exact .inr hc
       ·have h3:runL ((b :: r).drop (runL (b :: r) + 1)) = ((b :: r).drop (runL (b :: r) + 1)).length:=by rw [List.length_drop]; omega
        have:=@runL_mem ((b :: r).drop (runL (b :: r) + 1)) c
        rw [h3,List.take_length] at this
        exact .inl (this hc)
     ·have:=@runL_mem (b :: r) c
      rw [hn,List.take_length] at this
      exact .inl (this hc)
    refine ⟨⟨b,r,rfl,?_⟩,?_,?_,h40,fun c hc => ?_⟩
    ·unfold smallT at hs
     simp only [List.getD_cons_zero,Bool.and_eq_true,decide_eq_true_iff] at hs
     omega
    ·intro hc
     rcases hall 32 hc with h | h
     ·rw [isP32] at h; cases h
     ·cases h
    ·cases hk2:kwords.contains (b :: r) with
     | false => rfl
     | true => exact absurd hk2 hk
    ·rcases hall c hc with h | h
     ·exact isP_lt h
     ·omega
 ·split at hT
  ·cases hT
  ·split at hT
   ·cases hT
   ·split at hT
    ·split at hT <;> cases hT
    ·split at hT <;> cases hT
def dig (n:Nat):List Nat:=if h:n < 10 then [48 + n] else dig (n / 10) ++ [48 + n % 10]
 termination_by n
 decreasing_by omega
def undig (s:List Nat):Nat:=s.foldl (fun a c => 10 * a + (c - 48)) 0
theorem undig_dig (n:Nat):undig (dig n) = n:=by
 induction n using Nat.strongRecOn with
 | _ n ih =>
  rw [dig]
  split
  ·simp [undig]
  ·have:=ih (n / 10) (by omega)
   unfold undig at this ⊢
   rw [List.foldl_append,this]
   simp only [List.foldl_cons,List.foldl_nil]
   omega
theorem dig_mem (n:Nat):∀ c ∈ dig n,48 ≤ c ∧ c ≤ 57:=by
 induction n using Nat.strongRecOn with
 | _ n ih =>
  rw [dig]
  split
  ·intro c hc; simp at hc; omega
  ·intro c hc
   rcases List.mem_append.1 hc with hc | hc
   ·exact ih _ (by omega) c hc
   ·simp at hc; omega
abbrev Toks:=List (List Nat)
def ltr (kd:Int):List Nat:=if kd = 2 then [66] else if kd = 3 then [80] else if kd = 4 then [86] else []
def htok (kd n:Int) (nm:List Nat):List Nat:=if kd = 1 then nm else ltr kd ++ dig n.toNat
mutual
def Ty.toks:Ty → Toks | .mk nm _ xs => if xs.length = 2 then [40] :: (Ty.hd xs ++ [45,62] :: (Ty.hd2 xs ++ [[41]])) else [nm]
def Ty.hd:List Ty → Toks | [] => [] | t :: _ => t.toks
def Ty.hd2:List Ty → Toks | [] => [] | _ :: r => Ty.hd r
end
def Tm.isNil:Tm → Bool | .mk _ _ _ _ xs => xs.isEmpty
mutual
def Tm.toks:Tm → Toks | .mk kd n nm _ xs => if kd = 5 then [92] :: [46] :: Tm.hd xs else htok kd n nm :: Tm.args xs
def Tm.hd:List Tm → Toks | [] => [] | t :: _ => t.toks
def Tm.args:List Tm → Toks | [] => [] | t :: r => (if t.isNil then t.toks else [40] :: (t.toks ++ [[41]])) ++ Tm.args r
end
def opn (kd:Int):List Nat:=if kd = 4 then [42] else if kd = 5 then [38] else if kd = 6 then [43] else if kd = 7 then [45,111] else if kd = 8 then [61,62] else []
def qnt (kd:Int):List Nat:=if kd = 10 then [97,108,108] else if kd = 11 then [101,120] else []
mutual
def Fo.toks:Fo → Toks
 | .mk kd nm _ xs ty _ ls =>
  if kd = 1 then nm :: Tm.args xs
  else if kd = 2 then [[111,110,101]]
  else if kd = 3 then [[116,111,112]]
  else if kd = 9 then [33] :: Fo.hd ls
  else if kd = 12 then [123] :: (Fo.hd ls ++ [[125]])
  else if kd = 10 ∨ kd = 11 then qnt kd :: [58] :: (ty.toks ++ [46] :: Fo.hd ls)
  else [40] :: (Fo.hd ls ++ opn kd :: (Fo.hd2 ls ++ [[41]]))
def Fo.hd:List Fo → Toks | [] => [] | t :: _ => t.toks
def Fo.hd2:List Fo → Toks | [] => [] | _ :: r => Fo.hd r
end
mutual
def Ty.nmd:Ty → Prop | .mk nm _ xs => ((xs.length = 0 ∧ NameOk nm) ∨ (xs.length = 2 ∧ nm = [45,62])) ∧ Ty.nmds xs
def Ty.nmds:List Ty → Prop | [] => True | t :: r => t.nmd ∧ Ty.nmds r
end
mutual
def Fo.Tx:Fo → Prop
 | .mk kd nm _ xs ty _ ls => parts kd = (ls.length:Int) ∧ (kd = 1 → NameOk nm ∧ Tm.shps xs = true) ∧ (kd = 10 ∨ kd = 11 → ty.nmd ∧ ty.nd 100 ≤ 4000 ∧ ty.dp 100 = false) ∧ (kd ≠ 10 → kd ≠ 11 → ty.nm = [] ∧ ty.xs = []) ∧ Fo.Txs ls
def Fo.Txs:List Fo → Prop | [] => True | t :: r => t.Tx ∧ Fo.Txs r
end
mutual
theorem Fo.Tx.pt:∀ {t:Fo},t.Tx → t.Pt
 | .mk kd nm ka xs ty kl ls,h => by simp only [Fo.Tx] at h; simp only [Fo.Pt]; exact ⟨h.1,Fo.Txs.pts h.2.2.2.2⟩
theorem Fo.Txs.pts:∀ {l:List Fo},Fo.Txs l → Fo.Pts l
 | [],_ => by simp only [Fo.Pts]
 | t :: r,h => by simp only [Fo.Txs] at h; simp only [Fo.Pts]; exact ⟨h.1.pt,Fo.Txs.pts h.2⟩
end
theorem name_ne {s:List Nat} (h:NameOk s) {c:List Nat} (hc:∀ b r,c = b :: r → ¬ (97 ≤ b ∧ b ≤ 122)):s ≠ c:=by
 obtain ⟨⟨b,r,e,h1,h2⟩,_⟩:=h
 intro e2
 exact hc b r (by rw [← e2,e]) ⟨h1,h2⟩
theorem name_par {s:List Nat} (h:NameOk s):s ≠ [40]:=name_ne h fun b r e => by injection e with e; omega
mutual
theorem Ty.inj:∀ (t u:Ty),t.nmd → u.nmd → ∀ (r s:Toks),t.toks ++ r = u.toks ++ s → t.cmp u = 0 ∧ r = s
 | .mk nm k xs,.mk nm' k' ys,ht,hu,r,s,h => by
  simp only [Ty.nmd] at ht hu
  simp only [Ty.toks] at h
  simp only [Ty.cmp,or0_z]
  rcases ht.1 with ⟨e1,n1⟩ | ⟨e1,n1⟩
  ·rcases hu.1 with ⟨e2,n2⟩ | ⟨e2,n2⟩
   ·rw [if_neg (by omega),if_neg (by omega)] at h
    simp only [List.cons_append,List.nil_append,List.cons.injEq] at h
    obtain rfl:=List.eq_nil_of_length_eq_zero e1
    obtain rfl:=List.eq_nil_of_length_eq_zero e2
    exact ⟨⟨cmpN_z.2 h.1,by simp,by simp [Ty.cmps]⟩,h.2⟩
   ·rw [if_neg (by omega),if_pos e2] at h
    simp only [List.cons_append,List.nil_append,List.cons.injEq] at h
    exact absurd h.1 (name_par n1)
  ·rcases hu.1 with ⟨e2,n2⟩ | ⟨e2,n2⟩
   ·rw [if_pos e1,if_neg (by omega)] at h
    simp only [List.cons_append,List.nil_append,List.cons.injEq] at h
    exact absurd h.1.symm (name_par n2)
   ·rw [if_pos e1,if_pos e2] at h
    simp only [List.cons_append,List.nil_append,List.cons.injEq,true_and,List.append_assoc] at h
    have:=Ty.inj2 xs ys e1 e2 ht.2 hu.2 _ _ h
    exact ⟨⟨cmpN_z.2 (by rw [n1,n2]),by omega,this.1⟩,this.2⟩
theorem Ty.inj2:∀ (xs ys:List Ty),xs.length = 2 → ys.length = 2 → Ty.nmds xs → Ty.nmds ys → ∀ (r s:Toks),Ty.hd xs ++ [45,62] :: (Ty.hd2 xs ++ [41] :: r) = Ty.hd ys ++ [45,62] :: (Ty.hd2 ys ++ [41] :: s) → Ty.cmps xs ys = 0 ∧ r = s
 | [a,b],[c,d],_,_,hx,hy,r,s,h => by
  simp only [Ty.nmds] at hx hy
  simp only [Ty.hd,Ty.hd2] at h
  have h1:=Ty.inj a c hx.1 hy.1 _ _ h
  simp only [List.cons.injEq,true_and] at h1
  have h2:=Ty.inj b d hx.2.1 hy.2.1 _ _ h1.2
  simp only [List.cons.injEq,true_and] at h2
  refine ⟨?_,h2.2⟩
  simp only [Ty.cmps,or0_z]
  exact ⟨h1.1,h2.1,rfl⟩
 | [],_,e,_,_,_,_,_,_ => by simp at e
 | [_],_,e,_,_,_,_,_,_ => by simp at e
 | _ :: _ :: _ :: _,_,e,_,_,_,_,_,_ => by simp at e
 | [_,_],[],_,e,_,_,_,_,_ => by simp at e
 | [_,_],[_],_,e,_,_,_,_,_ => by simp at e
 | [_,_],_ :: _ :: _ :: _,_,e,_,_,_,_,_ => by simp at e
end
def stops:Toks:=[[41],[42],[38],[43],[45,111],[61,62],[125]]
def Stop:Toks → Prop | [] => True | c :: _ => c ∈ stops
def ltb (c:List Nat):Bool:=match c with | [] => false | b :: _ => (97 ≤ b && b ≤ 122) || (b == 66 || (b == 80 || b == 86))
theorem ltb_name {s:List Nat} (h:NameOk s):ltb s = true:=by
 obtain ⟨⟨b,r,rfl,h1,h2⟩,_⟩:=h
 simp [ltb,h1,h2]
theorem node_cases {kd n:Int} {nm:List Nat} {len:Nat} (h:nodeT kd n nm len = true) :
  (kd = 1 ∧ n = 0 ∧ NameOk nm) ∨ ((kd = 2 ∨ kd = 3 ∨ kd = 4) ∧ (0 ≤ n ∧ n ≤ 100000) ∧ nm = []) ∨ (kd = 5 ∧ n = 0 ∧ nm = [] ∧ len = 1):=by
 unfold nodeT at h
 split at h
 ·simp only [Bool.and_eq_true,beq_iff_eq,decide_eq_true_iff] at h
  exact .inl ⟨by assumption,h.1,name_ok h.2.1⟩
 ·split at h
  ·simp only [Bool.and_eq_true,decide_eq_true_iff,beq_iff_eq] at h
   exact .inr (.inl ⟨by assumption,⟨h.1,h.2.1⟩,h.2.2.1⟩)
  ·simp only [Bool.and_eq_true,decide_eq_true_iff,beq_iff_eq] at h
   exact .inr (.inr ⟨h.1,h.2.1,h.2.2.1,by omega⟩)
theorem ltb_htok {kd n:Int} {nm:List Nat} {len:Nat} (h:nodeT kd n nm len = true) (h5:kd ≠ 5):ltb (htok kd n nm) = true:=by
 rcases node_cases h with ⟨rfl,rfl,h1⟩ | ⟨rfl | rfl | rfl,_,_⟩ | ⟨h1,_⟩
 ·exact ltb_name h1
 ·rfl
 ·rfl
 ·rfl
 ·exact absurd h1 h5
theorem htok_inj {kd n kd' n':Int} {nm nm':List Nat} {len len':Nat} (h:nodeT kd n nm len = true) (h5:kd ≠ 5) (h':nodeT kd' n' nm' len' = true) (h5':kd' ≠ 5) (e:htok kd n nm = htok kd' n' nm'):kd = kd' ∧ n = n' ∧ nm = nm':=by
 have key:∀ {n n':Int},0 ≤ n → 0 ≤ n' → dig n.toNat = dig n'.toNat → n = n':=fun a b e => by
  have:=congrArg undig e
  rw [undig_dig,undig_dig] at this
  omega
 rcases node_cases h with ⟨rfl,rfl,h1⟩ | ⟨h1,h2,rfl⟩ | ⟨h1,_⟩
 ·rcases node_cases h' with ⟨rfl,rfl,h1'⟩ | ⟨h1',h2',rfl⟩ | ⟨h1',_⟩
  ·exact ⟨rfl,rfl,e⟩
  ·exfalso
   obtain ⟨⟨b,r,rfl,hb⟩,_⟩:=h1
   rcases h1' with rfl | rfl | rfl <;> (simp [htok,ltr] at e; omega)
  ·exact absurd h1' h5'
 ·rcases node_cases h' with ⟨rfl,rfl,h1'⟩ | ⟨h1',h2',rfl⟩ | ⟨h1',_⟩
  ·exfalso
   obtain ⟨⟨b,r,rfl,hb⟩,_⟩:=h1'
   rcases h1 with rfl | rfl | rfl <;> (simp [htok,ltr] at e; omega)
  ·rcases h1 with rfl | rfl | rfl <;> rcases h1' with rfl | rfl | rfl <;> simp [htok,ltr] at e <;> exact ⟨rfl,key h2.1 h2'.1 e,rfl⟩
  ·exact absurd h1' h5'
 ·exact absurd h1 h5
theorem stop_ltb {c:List Nat} {r:Toks} (h:Stop (c :: r)):ltb c = false ∧ c ≠ [40]:=by
 simp only [Stop,stops,List.mem_cons,List.not_mem_nil,or_false] at h
 rcases h with rfl | rfl | rfl | rfl | rfl | rfl | rfl <;> exact ⟨rfl,by decide⟩
theorem args_stop {t:Tm} {l:List Tm} (h:t.shp = true) {r:Toks} (hs:Stop (Tm.args (t :: l) ++ r)):False:=by
 obtain ⟨kd,n,nm,k,xs⟩:=t
 simp only [Tm.shp,Bool.and_eq_true] at h
 simp only [Tm.args] at hs
 by_cases hx:(Tm.mk kd n nm k xs).isNil = true
 ·rw [if_pos hx] at hs
  simp only [Tm.isNil] at hx
  obtain rfl:=List.isEmpty_iff.1 hx
  have h5:kd ≠ 5:=by
   rintro rfl
   rcases node_cases h.1 with ⟨h,_⟩ | ⟨h,_⟩ | ⟨_,_,_,h⟩
   ·cases h
   ·omega
   ·cases h
  simp only [Tm.toks,if_neg h5,List.cons_append] at hs
  have:=(stop_ltb hs).1
  rw [ltb_htok h.1 h5] at this
  cases this
 ·rw [if_neg hx] at hs
  simp only [List.cons_append] at hs
  exact (stop_ltb hs).2 rfl
mutual
theorem Tm.inj:∀ (t u:Tm),t.shp = true → u.shp = true → ∀ (r s:Toks),Stop r → Stop s → t.toks ++ r = u.toks ++ s → t.cmp u = 0 ∧ r = s
 | .mk kd n nm k xs,.mk kd' n' nm' k' ys,ht,hu,r,s,hr,hs,h => by
  simp only [Tm.shp,Bool.and_eq_true] at ht hu
  simp only [Tm.toks] at h
  simp only [Tm.cmp,or0_z,cmpI_z,cmpN_z]
  by_cases h5:kd = 5
  ·by_cases h5':kd' = 5
   ·subst h5; subst h5'
    rw [if_pos rfl,if_pos rfl] at h
    simp only [List.cons_append,List.cons.injEq,true_and] at h
    rcases node_cases ht.1 with ⟨e,_⟩ | ⟨e,_⟩ | ⟨_,rfl,rfl,e1⟩
    ·cases e
    ·omega
    ·rcases node_cases hu.1 with ⟨e,_⟩ | ⟨e,_⟩ | ⟨_,rfl,rfl,e2⟩
     ·cases e
     ·omega
     ·have:=Tm.injh xs ys e1 e2 ht.2 hu.2 r s hr hs h
      exact ⟨⟨⟨rfl,rfl,rfl,by omega⟩,this.1⟩,this.2⟩
   ·rw [if_pos h5,if_neg h5'] at h
    simp only [List.cons_append,List.cons.injEq] at h
    have:=ltb_htok hu.1 h5'
    rw [← h.1] at this; cases this
  ·by_cases h5':kd' = 5
   ·rw [if_neg h5,if_pos h5'] at h
    simp only [List.cons_append,List.cons.injEq] at h
    have:=ltb_htok ht.1 h5
    rw [h.1] at this; cases this
   ·rw [if_neg h5,if_neg h5'] at h
    simp only [List.cons_append,List.cons.injEq] at h
    obtain ⟨rfl,rfl,rfl⟩:=htok_inj ht.1 h5 hu.1 h5' h.1
    have:=Tm.injs xs ys ht.2 hu.2 r s hr hs h.2
    exact ⟨⟨⟨rfl,rfl,rfl,by omega⟩,this.2.1⟩,this.2.2⟩
theorem Tm.injh:∀ (xs ys:List Tm),xs.length = 1 → ys.length = 1 → Tm.shps xs = true → Tm.shps ys = true → ∀ (r s:Toks),Stop r → Stop s → Tm.hd xs ++ r = Tm.hd ys ++ s → Tm.cmps xs ys = 0 ∧ r = s
 | [x],[y],_,_,hx,hy,r,s,hr,hs,h => by
  simp only [Tm.shps,Bool.and_true] at hx hy
  simp only [Tm.hd] at h
  have:=Tm.inj x y hx hy r s hr hs h
  simp only [Tm.cmps,or0_z,and_true]
  exact this
 | [],_,e,_,_,_,_,_,_,_,_ => by simp at e
 | _ :: _ :: _,_,e,_,_,_,_,_,_,_,_ => by simp at e
 | [_],[],_,e,_,_,_,_,_,_,_ => by simp at e
 | [_],_ :: _ :: _,_,e,_,_,_,_,_,_,_ => by simp at e
theorem Tm.injs:∀ (xs ys:List Tm),Tm.shps xs = true → Tm.shps ys = true → ∀ (r s:Toks),Stop r → Stop s → Tm.args xs ++ r = Tm.args ys ++ s → xs.length = ys.length ∧ Tm.cmps xs ys = 0 ∧ r = s
 | [],[],_,_,r,s,_,_,h => by simp only [Tm.args,List.nil_append] at h; exact ⟨rfl,by simp [Tm.cmps],h⟩
 | [],y :: ys,_,hy,r,s,hr,hs,h => by
  simp only [Tm.shps,Bool.and_eq_true] at hy
  rw [show Tm.args [] = [] by simp [Tm.args],List.nil_append] at h
  rw [h] at hr
  exact (args_stop hy.1 hr).elim
 | x :: xs,[],hx,_,r,s,hr,hs,h => by
  simp only [Tm.shps,Bool.and_eq_true] at hx
  rw [show Tm.args [] = [] by simp [Tm.args],List.nil_append] at h
  rw [← h] at hs
  exact (args_stop hx.1 hs).elim
 | x :: xs,y :: ys,hx,hy,r,s,hr,hs,h => by
  simp only [Tm.shps,Bool.and_eq_true] at hx hy
  have fin:x.cmp y = 0 → Tm.args xs ++ r = Tm.args ys ++ s → (x :: xs).length = (y :: ys).length ∧ Tm.cmps (x :: xs) (y :: ys) = 0 ∧ r = s:=fun h1 h2 => by
   have:=Tm.injs xs ys hx.2 hy.2 r s hr hs h2
   refine ⟨by simp [this.1],?_,this.2.2⟩
   simp only [Tm.cmps,or0_z]
   exact ⟨h1,this.2.1⟩
  have one:∀ {t:Tm},t.shp = true → t.isNil = true → ∃ kd n nm k,t = .mk kd n nm k [] ∧ nodeT kd n nm 0 = true ∧ kd ≠ 5 ∧ t.toks = [htok kd n nm]:=fun {t} h1 h2 => by
   obtain ⟨kd,n,nm,k,l⟩:=t
   simp only [Tm.isNil] at h2
   obtain rfl:=List.isEmpty_iff.1 h2
   simp only [Tm.shp,Bool.and_eq_true] at h1
   have h5:kd ≠ 5:=by
    rintro rfl
    rcases node_cases h1.1 with ⟨h,_⟩ | ⟨h,_⟩ | ⟨_,_,_,h⟩
    ·cases h
    ·omega
    ·cases h
   exact ⟨kd,n,nm,k,rfl,h1.1,h5,by simp [Tm.toks,h5,Tm.args]⟩
  simp only [Tm.args,List.append_assoc] at h
  cases ex:x.isNil with
  | true =>
   obtain ⟨kd,n,nm,k,e1,e2,e3,e4⟩:=one hx.1 ex
   cases ey:y.isNil with
   | true =>
    obtain ⟨kd',n',nm',k',e1',e2',e3',e4'⟩:=one hy.1 ey
    simp only [ex,ey,if_true,e4,e4',List.cons_append,List.nil_append,List.cons.injEq] at h
    obtain ⟨rfl,rfl,rfl⟩:=htok_inj e2 e3 e2' e3' h.1
    refine fin ?_ h.2
    rw [e1,e1']
    simp only [Tm.cmp,or0_z,cmpI_z,cmpN_z,Tm.cmps,and_self]
   | false =>
    simp only [ex,ey,if_true,Bool.false_eq_true,if_false,e4,List.cons_append,List.nil_append,List.cons.injEq] at h
    have:=ltb_htok e2 e3
    rw [h.1] at this; cases this
  | false =>
   cases ey:y.isNil with
   | true =>
    obtain ⟨kd',n',nm',k',e1',e2',e3',e4'⟩:=one hy.1 ey
    simp only [ex,ey,if_true,Bool.false_eq_true,if_false,e4',List.cons_append,List.nil_append,List.cons.injEq] at h
    have:=ltb_htok e2' e3'
    rw [← h.1] at this; cases this
   | false =>
    simp only [ex,ey,Bool.false_eq_true,if_false,List.cons_append,List.nil_append,List.cons.injEq,true_and,List.append_assoc] at h
    have:=Tm.inj x y hx.1 hy.1 _ _ (by simp [Stop,stops]) (by simp [Stop,stops]) h
    simp only [List.cons.injEq,true_and] at this
    exact fin this.1 this.2
end
theorem name_kw {s:List Nat} (h:NameOk s) {c:List Nat} (hc:kwords.contains c = true):s ≠ c:=by
 rintro rfl
 have:=h.2.2.1
 rw [hc] at this; cases this
theorem parts_cases {kd:Int} {n:Nat} (h:parts kd = (n:Int)) :
  ((kd = 1 ∨ kd = 2 ∨ kd = 3) ∧ n = 0) ∨ ((kd = 4 ∨ kd = 5 ∨ kd = 6 ∨ kd = 7 ∨ kd = 8) ∧ n = 2) ∨ ((kd = 9 ∨ kd = 10 ∨ kd = 11 ∨ kd = 12) ∧ n = 1):=by
 unfold parts at h
 split at h
 ·exact .inl ⟨by assumption,by omega⟩
 ·split at h
  ·exact .inr (.inl ⟨by assumption,by omega⟩)
  ·split at h
   ·exact .inr (.inr ⟨by assumption,by omega⟩)
   ·omega
def cls (kd:Int):Nat:=if kd = 1 then 1 else if kd = 2 then 2 else if kd = 3 then 3 else if kd = 9 then 9 else if kd = 12 then 12 else if kd = 10 then 10 else if kd = 11 then 11 else 4
def ftok (kd:Int) (nm:List Nat):List Nat:=if kd = 1 then nm else if kd = 2 then [111,110,101] else if kd = 3 then [116,111,112] else if kd = 9 then [33] else if kd = 12 then [123] else if kd = 10 then [97,108,108] else if kd = 11 then [101,120] else [40]
def frest (kd:Int) (xs:List Tm) (ty:Ty) (ls:List Fo):Toks :=
 if kd = 1 then Tm.args xs else if kd = 2 then [] else if kd = 3 then [] else if kd = 9 then Fo.hd ls else if kd = 12 then Fo.hd ls ++ [[125]]
 else if kd = 10 ∨ kd = 11 then [58] :: (ty.toks ++ [46] :: Fo.hd ls) else Fo.hd ls ++ opn kd :: (Fo.hd2 ls ++ [[41]])
theorem toks_eq (kd:Int) (nm:List Nat) (ka:SK) (xs:List Tm) (ty:Ty) (kl:SK) (ls:List Fo):(Fo.mk kd nm ka xs ty kl ls).toks = ftok kd nm :: frest kd xs ty ls:=by
 rw [Fo.toks]
 unfold ftok frest
 repeat' split
 all_goals first | rfl | (simp_all [qnt]; done) | omega
def tcls (c:List Nat):Nat :=
 if c = [111,110,101] then 2 else if c = [116,111,112] then 3 else if c = [33] then 9 else if c = [123] then 12
 else if c = [97,108,108] then 10 else if c = [101,120] then 11 else if c = [40] then 4 else 1
theorem tcls_name {s:List Nat} (h:NameOk s):tcls s = 1:=by
 unfold tcls
 rw [if_neg (name_kw h (by kernel_rfl)),if_neg (name_kw h (by kernel_rfl)),if_neg (name_ne h fun b r e => by (injection e with e; omega)),if_neg (name_ne h fun b r e => by (injection e with e; omega)),
  if_neg (name_kw h (by kernel_rfl)),if_neg (name_kw h (by kernel_rfl)),if_neg (name_par h)]
theorem cls_ftok {kd:Int} {nm:List Nat} (h:kd = 1 → NameOk nm):cls kd = tcls (ftok kd nm):=by
 by_cases h1:kd = 1
 ·subst h1
  rw [show ftok 1 nm = nm from rfl,tcls_name (h rfl)]; rfl
 ·unfold cls ftok
  rw [if_neg h1,if_neg h1]
  repeat' split
  all_goals rfl
theorem cls_cases {kd kd':Int} {n n':Nat} (h:parts kd = (n:Int)) (h':parts kd' = (n':Int)) (e:cls kd = cls kd') :
  (kd = kd' ∧ (kd = 1 ∨ kd = 2 ∨ kd = 3 ∨ kd = 9 ∨ kd = 10 ∨ kd = 11 ∨ kd = 12)) ∨ ((kd = 4 ∨ kd = 5 ∨ kd = 6 ∨ kd = 7 ∨ kd = 8) ∧ (kd' = 4 ∨ kd' = 5 ∨ kd' = 6 ∨ kd' = 7 ∨ kd' = 8)):=by
 have key:∀ {kd:Int} {n:Nat},parts kd = (n:Int) → ((kd = 4 ∨ kd = 5 ∨ kd = 6 ∨ kd = 7 ∨ kd = 8) ∧ cls kd = 4) ∨ (kd = (cls kd:Int) ∧ cls kd ≠ 4 ∧ (kd = 1 ∨ kd = 2 ∨ kd = 3 ∨ kd = 9 ∨ kd = 10 ∨ kd = 11 ∨ kd = 12)):=fun {kd n} h => by
  rcases parts_cases h with ⟨rfl | rfl | rfl,_⟩ | ⟨rfl | rfl | rfl | rfl | rfl,_⟩ | ⟨rfl | rfl | rfl | rfl,_⟩ <;> decide
 rcases key h with ⟨a,b⟩ | ⟨a,b,c⟩
 ·rcases key h' with ⟨a',b'⟩ | ⟨a',b',c'⟩
  ·exact .inr ⟨a,a'⟩
  ·exact absurd (e ▸ b) b'
 ·rcases key h' with ⟨a',b'⟩ | ⟨a',b',c'⟩
  ·exact absurd (e.symm ▸ b') b
  ·exact .inl ⟨by rw [a,a',e],c⟩
theorem opn_inj {kd kd':Int} (h:kd = 4 ∨ kd = 5 ∨ kd = 6 ∨ kd = 7 ∨ kd = 8) (h':kd' = 4 ∨ kd' = 5 ∨ kd' = 6 ∨ kd' = 7 ∨ kd' = 8) (e:opn kd = opn kd'):kd = kd':=by
 rcases h with rfl | rfl | rfl | rfl | rfl <;> rcases h' with rfl | rfl | rfl | rfl | rfl <;> first | rfl | (exfalso; revert e; decide)
theorem opn_stop {kd:Int} (h:kd = 4 ∨ kd = 5 ∨ kd = 6 ∨ kd = 7 ∨ kd = 8) {r:Toks}:Stop (opn kd :: r):=by
 rcases h with rfl | rfl | rfl | rfl | rfl <;> simp [Stop,stops,opn]
theorem frest_two {kd:Int} (h:kd = 4 ∨ kd = 5 ∨ kd = 6 ∨ kd = 7 ∨ kd = 8) (xs:List Tm) (ty:Ty) (ls:List Fo):frest kd xs ty ls = Fo.hd ls ++ opn kd :: (Fo.hd2 ls ++ [[41]]):=by
 rcases h with rfl | rfl | rfl | rfl | rfl <;> rfl
theorem ty_plain {ty ty':Ty} (h:ty.nm = [] ∧ ty.xs = []) (h':ty'.nm = [] ∧ ty'.xs = []):ty.cmp ty' = 0:=by
 obtain ⟨nm,k,xs⟩:=ty
 obtain ⟨nm',k',xs'⟩:=ty'
 simp only [Ty.nm,Ty.xs] at h h'
 obtain ⟨rfl,rfl⟩:=h
 obtain ⟨rfl,rfl⟩:=h'
 simp [Ty.cmp,or0,cmpN,Ty.cmps]
mutual
theorem Fo.inj:∀ (t u:Fo),t.Tx → u.Tx → ∀ (r s:Toks),Stop r → Stop s → t.toks ++ r = u.toks ++ s → t.cmp u = 0 ∧ r = s
 | .mk kd nm ka xs ty kl ls,.mk kd' nm' ka' xs' ty' kl' ls',ht,hu,r,s,hr,hs,h => by
  simp only [Fo.Tx] at ht hu
  rw [toks_eq,toks_eq,List.cons_append,List.cons_append,List.cons.injEq] at h
  simp only [Fo.cmp]
  have hc:cls kd = cls kd':=by rw [cls_ftok fun e => (ht.2.1 e).1,cls_ftok fun e => (hu.2.1 e).1,h.1]
  have hp1:=parts_cases ht.1
  have hp2:=parts_cases hu.1
  have hl:ls.length = ls'.length → kd ≠ 1 → kd ≠ 10 → kd ≠ 11 → kd' ≠ 10 → kd' ≠ 11 → ty.cmp ty' = 0:=fun _ _ a b c d => ty_plain (ht.2.2.2.1 a b) (hu.2.2.2.1 c d)
  rcases cls_cases ht.1 hu.1 hc with ⟨rfl,e⟩ | ⟨e,e'⟩
  ·rw [if_pos rfl]
   rcases e with rfl | rfl | rfl | rfl | rfl | rfl | rfl
   ·rw [if_pos rfl]
    have h3:=Tm.injs xs xs' (ht.2.1 rfl).2 (hu.2.1 rfl).2 r s hr hs h.2
    rw [Tm.cmpl_eq h3.1]
    simp only [or0_z,cmpN_z]
    exact ⟨⟨h.1,by omega,h3.2.1⟩,h3.2.2⟩
   ·rw [if_neg (by decide)]
    simp only [or0_z]
    have h0:ls.length = 0 ∧ ls'.length = 0:=by omega
    exact ⟨⟨hl (by omega) (by decide) (by decide) (by decide) (by decide) (by decide),Fo.inj0 ls ls' h0.1 h0.2⟩,h.2⟩
   ·rw [if_neg (by decide)]
    simp only [or0_z]
    have h0:ls.length = 0 ∧ ls'.length = 0:=by omega
    exact ⟨⟨hl (by omega) (by decide) (by decide) (by decide) (by decide) (by decide),Fo.inj0 ls ls' h0.1 h0.2⟩,h.2⟩
   ·rw [if_neg (by decide)]
    simp only [or0_z]
    have h3:=Fo.inj1 ls ls' (by omega) (by omega) ht.2.2.2.2 hu.2.2.2.2 r s hr hs h.2
    exact ⟨⟨hl (by omega) (by decide) (by decide) (by decide) (by decide) (by decide),h3.1⟩,h3.2⟩
   ·rw [if_neg (by decide)]
    simp only [or0_z]
    have h2:Ty.toks ty ++ ([46] :: (Fo.hd ls ++ r)) = Ty.toks ty' ++ ([46] :: (Fo.hd ls' ++ s)):=by
     have:=h.2
     simp only [frest,Int.reduceEq,if_false,or_false,if_true,List.cons_append,List.cons.injEq,true_and,List.append_assoc] at this
     exact this
    have h4:=Ty.inj ty ty' (ht.2.2.1 (by decide)).1 (hu.2.2.1 (by decide)).1 _ _ h2
    simp only [List.cons.injEq,true_and] at h4
    have h3:=Fo.inj1 ls ls' (by omega) (by omega) ht.2.2.2.2 hu.2.2.2.2 r s hr hs h4.2
    exact ⟨⟨h4.1,h3.1⟩,h3.2⟩
   ·rw [if_neg (by decide)]
    simp only [or0_z]
    have h2:Ty.toks ty ++ ([46] :: (Fo.hd ls ++ r)) = Ty.toks ty' ++ ([46] :: (Fo.hd ls' ++ s)):=by
     have:=h.2
     simp only [frest,Int.reduceEq,if_false,or_true,if_true,List.cons_append,List.cons.injEq,true_and,List.append_assoc] at this
     exact this
    have h4:=Ty.inj ty ty' (ht.2.2.1 (by decide)).1 (hu.2.2.1 (by decide)).1 _ _ h2
    simp only [List.cons.injEq,true_and] at h4
    have h3:=Fo.inj1 ls ls' (by omega) (by omega) ht.2.2.2.2 hu.2.2.2.2 r s hr hs h4.2
    exact ⟨⟨h4.1,h3.1⟩,h3.2⟩
   ·rw [if_neg (by decide)]
    simp only [or0_z]
    have h2:Fo.hd ls ++ ([125] :: r) = Fo.hd ls' ++ ([125] :: s):=by
     have:=h.2
     simp only [frest,Int.reduceEq,if_false,if_true,List.append_assoc,List.cons_append,List.nil_append] at this
     exact this
    have h3:=Fo.inj1 ls ls' (by omega) (by omega) ht.2.2.2.2 hu.2.2.2.2 _ _ (by simp [Stop,stops]) (by simp [Stop,stops]) h2
    simp only [List.cons.injEq,true_and] at h3
    exact ⟨⟨hl (by omega) (by decide) (by decide) (by decide) (by decide) (by decide),h3.1⟩,h3.2⟩
  ·rw [frest_two e,frest_two e'] at h
   have h2:=h.2
   simp only [List.append_assoc,List.cons_append,List.nil_append] at h2
   have h3:=Fo.inj2 ls ls' (by omega) (by omega) ht.2.2.2.2 hu.2.2.2.2 (opn kd) (opn kd') (fun _ => opn_stop e) (fun _ => opn_stop e') r s h2
   obtain rfl:=opn_inj e e' h3.1
   rw [if_pos rfl,if_neg (by omega)]
   simp only [or0_z]
   exact ⟨⟨hl (by omega) (by omega) (by omega) (by omega) (by omega) (by omega),h3.2.1⟩,h3.2.2⟩
theorem Fo.inj0:∀ (ls ls':List Fo),ls.length = 0 → ls'.length = 0 → Fo.cmps ls ls' = 0
 | [],[],_,_ => rfl
 | _ :: _,_,h,_ => by simp at h
 | [],_ :: _,_,h => by simp at h
theorem Fo.inj1:∀ (ls ls':List Fo),ls.length = 1 → ls'.length = 1 → Fo.Txs ls → Fo.Txs ls' → ∀ (r s:Toks),Stop r → Stop s → Fo.hd ls ++ r = Fo.hd ls' ++ s → Fo.cmps ls ls' = 0 ∧ r = s
 | [x],[y],_,_,hx,hy,r,s,hr,hs,h => by
  simp only [Fo.Txs] at hx hy
  simp only [Fo.hd] at h
  have:=Fo.inj x y hx.1 hy.1 r s hr hs h
  simp only [Fo.cmps,or0_z]
  exact ⟨⟨this.1,rfl⟩,this.2⟩
 | [],_,e,_,_,_,_,_,_,_,_ => by simp at e
 | _ :: _ :: _,_,e,_,_,_,_,_,_,_,_ => by simp at e
 | [_],[],_,e,_,_,_,_,_,_,_ => by simp at e
 | [_],_ :: _ :: _,_,e,_,_,_,_,_,_,_ => by simp at e
theorem Fo.inj2:∀ (ls ls':List Fo),ls.length = 2 → ls'.length = 2 → Fo.Txs ls → Fo.Txs ls' → ∀ (o o':List Nat),(∀ r:Toks,Stop (o :: r)) → (∀ r:Toks,Stop (o' :: r)) → ∀ (r s:Toks),Fo.hd ls ++ o :: (Fo.hd2 ls ++ [41] :: r) = Fo.hd ls' ++ o' :: (Fo.hd2 ls' ++ [41] :: s) → o = o' ∧ Fo.cmps ls ls' = 0 ∧ r = s
 | [a,b],[c,d],_,_,hx,hy,o,o',ho,ho',r,s,h => by
  simp only [Fo.Txs] at hx hy
  simp only [Fo.hd,Fo.hd2] at h
  have h1:=Fo.inj a c hx.1 hy.1 _ _ (ho _) (ho' _) h
  simp only [List.cons.injEq] at h1
  have h2:=Fo.inj b d hx.2.1 hy.2.1 _ _ (by simp [Stop,stops]) (by simp [Stop,stops]) h1.2.2
  simp only [List.cons.injEq,true_and] at h2
  refine ⟨h1.2.1,?_,h2.2⟩
  simp only [Fo.cmps,or0_z]
  exact ⟨h1.1,h2.1,rfl⟩
 | [],_,e,_,_,_,_,_,_,_,_,_,_ => by simp at e
 | [_],_,e,_,_,_,_,_,_,_,_,_,_ => by simp at e
 | _ :: _ :: _ :: _,_,e,_,_,_,_,_,_,_,_,_,_ => by simp at e
 | [_,_],[],_,e,_,_,_,_,_,_,_,_,_ => by simp at e
 | [_,_],[_],_,e,_,_,_,_,_,_,_,_,_ => by simp at e
 | [_,_],_ :: _ :: _ :: _,_,e,_,_,_,_,_,_,_,_,_ => by simp at e
end
theorem len0 {a b:Nat} (h:(a:Int) - (b:Int) = 0):a = b:=by omega
mutual
theorem Ty.same:∀ (t u:Ty),t.cmp u = 0 → t.toks = u.toks
 | .mk nm k xs,.mk nm' k' ys,h => by
  simp only [Ty.cmp,or0_z,cmpN_z] at h
  simp only [Ty.toks]
  obtain ⟨h1,h2⟩:=Ty.sames xs ys h.2.2 (len0 h.2.1)
  rw [h.1,h1,h2,len0 h.2.1]
theorem Ty.sames:∀ (xs ys:List Ty),Ty.cmps xs ys = 0 → xs.length = ys.length → Ty.hd xs = Ty.hd ys ∧ Ty.hd2 xs = Ty.hd2 ys
 | [],[],_,_ => ⟨rfl,rfl⟩
 | [],_ :: _,_,e => by simp at e
 | _ :: _,[],_,e => by simp at e
 | x :: xs,y :: ys,h,e => by
  simp only [Ty.cmps,or0_z] at h
  simp only [Ty.hd,Ty.hd2]
  exact ⟨Ty.same x y h.1,(Ty.sames xs ys h.2 (by simpa using e)).1⟩
end
mutual
theorem Tm.same:∀ (t u:Tm),t.cmp u = 0 → t.toks = u.toks ∧ t.isNil = u.isNil
 | .mk kd n nm k xs,.mk kd' n' nm' k' ys,h => by
  simp only [Tm.cmp,or0_z,cmpN_z,cmpI_z] at h
  obtain ⟨⟨rfl,rfl,rfl,hl⟩,h2⟩:=h
  have hl:xs.length = ys.length:=by omega
  obtain ⟨h1,h2⟩:=Tm.sames xs ys h2 hl
  simp only [Tm.toks,Tm.isNil,h1,h2,true_and]
  cases xs <;> cases ys <;> first | rfl | simp at hl
theorem Tm.sames:∀ (xs ys:List Tm),Tm.cmps xs ys = 0 → xs.length = ys.length → Tm.hd xs = Tm.hd ys ∧ Tm.args xs = Tm.args ys
 | [],[],_,_ => ⟨rfl,rfl⟩
 | [],_ :: _,_,e => by simp at e
 | _ :: _,[],_,e => by simp at e
 | x :: xs,y :: ys,h,e => by
  simp only [Tm.cmps,or0_z] at h
  obtain ⟨h1,h2⟩:=Tm.same x y h.1
  simp only [Tm.hd,Tm.args,h1,h2,(Tm.sames xs ys h.2 (by simpa using e)).2,and_self]
end
mutual
theorem Fo.same:∀ (t u:Fo),t.Pt → u.Pt → t.cmp u = 0 → t.toks = u.toks
 | .mk kd nm ka xs ty kl ls,.mk kd' nm' ka' xs' ty' kl' ls',ht,hu,h => by
  simp only [Fo.Pt] at ht hu
  simp only [Fo.cmp] at h
  by_cases e:kd = kd'
  ·subst e
   rw [if_pos rfl] at h
   have hl:ls.length = ls'.length:=by omega
   rw [toks_eq,toks_eq]
   by_cases e1:kd = 1
   ·subst e1
    rw [if_pos rfl] at h
    simp only [or0_z,cmpN_z] at h
    have hx:=len0 h.2.1
    rw [Tm.cmpl_eq hx] at h
    have:=(Tm.sames xs xs' h.2.2 hx).2
    simp only [ftok,frest,if_true,h.1,this]
   ·rw [if_neg e1] at h
    simp only [or0_z] at h
    have h1:=Ty.same ty ty' h.1
    obtain ⟨h2,h3⟩:=Fo.sames ls ls' ht.2 hu.2 h.2 hl
    simp only [ftok,frest,if_neg e1,h1,h2,h3]
  ·rw [if_neg e] at h
   omega
theorem Fo.sames:∀ (xs ys:List Fo),Fo.Pts xs → Fo.Pts ys → Fo.cmps xs ys = 0 → xs.length = ys.length → Fo.hd xs = Fo.hd ys ∧ Fo.hd2 xs = Fo.hd2 ys
 | [],[],_,_,_,_ => ⟨rfl,rfl⟩
 | [],_ :: _,_,_,_,e => by simp at e
 | _ :: _,[],_,_,_,e => by simp at e
 | x :: xs,y :: ys,hx,hy,h,e => by
  simp only [Fo.Pts] at hx hy
  simp only [Fo.cmps,or0_z] at h
  simp only [Fo.hd,Fo.hd2]
  exact ⟨Fo.same x y hx.1 hy.1 h.1,(Fo.sames xs ys hx.2 hy.2 h.2 (by simpa using e)).1⟩
end
def TokOk (c:List Nat):Prop:=c ≠ [] ∧ 32 ∉ c ∧ ∀ b ∈ c,b < 256
theorem name_tok {s:List Nat} (h:NameOk s):TokOk s:=by
 obtain ⟨⟨b,r,rfl,_⟩,h2,_,_,h3⟩:=h
 exact ⟨by simp,h2,h3⟩
theorem htok_ok {kd n:Int} {nm:List Nat} {len:Nat} (h:nodeT kd n nm len = true) (h5:kd ≠ 5):TokOk (htok kd n nm):=by
 rcases node_cases h with ⟨rfl,rfl,h1⟩ | ⟨h1,_,_⟩ | ⟨h1,_⟩
 ·exact name_tok h1
 ·have:∀ c ∈ dig n.toNat,c ≠ 32:=fun c hc e => by have:=dig_mem _ c hc; omega
  have h256:∀ c ∈ dig n.toNat,c < 256:=fun c hc => by have:=dig_mem _ c hc; omega
  rcases h1 with rfl | rfl | rfl <;> refine ⟨by simp [htok,ltr],fun hc => ?_,fun c hc => ?_⟩ <;> simp [htok,ltr] at hc
  ·exact this 32 hc rfl
  ·rcases hc with rfl | hc
   ·decide
   ·exact h256 c hc
  ·exact this 32 hc rfl
  ·rcases hc with rfl | hc
   ·decide
   ·exact h256 c hc
  ·exact this 32 hc rfl
  ·rcases hc with rfl | hc
   ·decide
   ·exact h256 c hc
 ·exact absurd h1 h5
mutual
theorem Ty.tokOk:∀ (t:Ty),t.nmd → ∀ c ∈ t.toks,TokOk c
 | .mk nm k xs,h => by
  simp only [Ty.nmd] at h
  obtain ⟨h1,h2⟩:=Ty.toksOk xs h.2
  simp only [Ty.toks]
  rcases h.1 with ⟨e,n⟩ | ⟨e,n⟩
  ·rw [if_neg (by omega)]
   intro c hc
   rw [List.mem_singleton.1 hc]
   exact name_tok n
  ·rw [if_pos e]
   intro c hc
   simp only [List.mem_cons,List.mem_append,List.not_mem_nil,or_false] at hc
   rcases hc with rfl | hc | rfl | hc | rfl
   ·exact ⟨by decide,by decide,by decide⟩
   ·exact h1 c hc
   ·exact ⟨by decide,by decide,by decide⟩
   ·exact h2 c hc
   ·exact ⟨by decide,by decide,by decide⟩
theorem Ty.toksOk:∀ (xs:List Ty),Ty.nmds xs → (∀ c ∈ Ty.hd xs,TokOk c) ∧ (∀ c ∈ Ty.hd2 xs,TokOk c)
 | [],_ => ⟨fun c h => by simp [Ty.hd] at h,fun c h => by simp [Ty.hd2] at h⟩
 | x :: xs,h => by
  simp only [Ty.nmds] at h
  simp only [Ty.hd,Ty.hd2]
  exact ⟨Ty.tokOk x h.1,(Ty.toksOk xs h.2).1⟩
end
mutual
theorem Tm.tokOk:∀ (t:Tm),t.shp = true → ∀ c ∈ t.toks,TokOk c
 | .mk kd n nm k xs,h => by
  simp only [Tm.shp,Bool.and_eq_true] at h
  obtain ⟨h1,h2⟩:=Tm.toksOk xs h.2
  simp only [Tm.toks]
  by_cases h5:kd = 5
  ·rw [if_pos h5]
   intro c hc
   simp only [List.mem_cons] at hc
   rcases hc with rfl | rfl | hc
   ·exact ⟨by decide,by decide,by decide⟩
   ·exact ⟨by decide,by decide,by decide⟩
   ·exact h1 c hc
  ·rw [if_neg h5]
   intro c hc
   rcases List.mem_cons.1 hc with rfl | hc
   ·exact htok_ok h.1 h5
   ·exact h2 c hc
theorem Tm.toksOk:∀ (xs:List Tm),Tm.shps xs = true → (∀ c ∈ Tm.hd xs,TokOk c) ∧ (∀ c ∈ Tm.args xs,TokOk c)
 | [],_ => ⟨fun c h => by simp [Tm.hd] at h,fun c h => by simp [Tm.args] at h⟩
 | x :: xs,h => by
  simp only [Tm.shps,Bool.and_eq_true] at h
  have h1:=Tm.tokOk x h.1
  have h2:=(Tm.toksOk xs h.2).2
  simp only [Tm.hd,Tm.args]
  refine ⟨h1,fun c hc => ?_⟩
  split at hc
  ·rcases List.mem_append.1 hc with hc | hc
   ·exact h1 c hc
   ·exact h2 c hc
  ·simp only [List.mem_cons,List.mem_append,List.not_mem_nil,or_false] at hc
   rcases hc with (rfl | hc | rfl) | hc
   ·exact ⟨by decide,by decide,by decide⟩
   ·exact h1 c hc
   ·exact ⟨by decide,by decide,by decide⟩
   ·exact h2 c hc
end
theorem opn_ok {kd:Int} (h:kd = 4 ∨ kd = 5 ∨ kd = 6 ∨ kd = 7 ∨ kd = 8):TokOk (opn kd):=by
 rcases h with rfl | rfl | rfl | rfl | rfl <;> exact ⟨by decide,by decide,by decide⟩
mutual
theorem Fo.tokOk:∀ (t:Fo),t.Tx → ∀ c ∈ t.toks,TokOk c
 | .mk kd nm ka xs ty kl ls,h => by
  simp only [Fo.Tx] at h
  obtain ⟨h1,h2⟩:=Fo.toksOk ls h.2.2.2.2
  have hp:=parts_cases h.1
  rw [toks_eq]
  intro c hc
  rcases List.mem_cons.1 hc with rfl | hc
  ·by_cases e:kd = 1
   ·subst e; exact name_tok (h.2.1 rfl).1
   ·unfold ftok
    rw [if_neg e]
    repeat' split
    all_goals exact ⟨by decide,by decide,by decide⟩
  ·by_cases e2:kd = 4 ∨ kd = 5 ∨ kd = 6 ∨ kd = 7 ∨ kd = 8
   ·rw [frest_two e2] at hc
    simp only [List.mem_append,List.mem_cons,List.not_mem_nil,or_false] at hc
    rcases hc with hc | rfl | hc | rfl
    ·exact h1 c hc
    ·exact opn_ok e2
    ·exact h2 c hc
    ·exact ⟨by decide,by decide,by decide⟩
   ·have e:kd = 1 ∨ kd = 2 ∨ kd = 3 ∨ kd = 9 ∨ kd = 12 ∨ (kd = 10 ∨ kd = 11):=by omega
    rcases e with rfl | rfl | rfl | rfl | rfl | e
    ·exact (Tm.toksOk xs (h.2.1 rfl).2).2 c hc
    ·simp [frest] at hc
    ·simp [frest] at hc
    ·exact h1 c hc
    ·simp only [frest,Int.reduceEq,if_false,if_true,List.mem_append,List.mem_cons,List.not_mem_nil,or_false] at hc
     rcases hc with hc | rfl
     ·exact h1 c hc
     ·exact ⟨by decide,by decide,by decide⟩
    ·unfold frest at hc
     rw [if_neg (by omega),if_neg (by omega),if_neg (by omega),if_neg (by omega),if_neg (by omega),if_pos e] at hc
     simp only [List.mem_append,List.mem_cons] at hc
     rcases hc with rfl | hc | rfl | hc
     ·exact ⟨by decide,by decide,by decide⟩
     ·exact Ty.tokOk ty (h.2.2.1 e).1 c hc
     ·exact ⟨by decide,by decide,by decide⟩
     ·exact h1 c hc
theorem Fo.toksOk:∀ (xs:List Fo),Fo.Txs xs → (∀ c ∈ Fo.hd xs,TokOk c) ∧ (∀ c ∈ Fo.hd2 xs,TokOk c)
 | [],_ => ⟨fun c h => by simp [Fo.hd] at h,fun c h => by simp [Fo.hd2] at h⟩
 | x :: xs,h => by
  simp only [Fo.Txs] at h
  simp only [Fo.hd,Fo.hd2]
  exact ⟨Fo.tokOk x h.1,(Fo.toksOk xs h.2).1⟩
end
def putT (b:List Nat) (s:List Nat):List Nat:=(if 0 < b.length then b ++ [32] else b) ++ s
def puts (b:List Nat) (l:Toks):List Nat:=l.foldl putT b
def flat:Toks → List Nat | [] => [] | s :: l => 32 :: (s ++ flat l)
theorem puts_flat:∀ (l:Toks) (b:List Nat),b ≠ [] → puts b l = b ++ flat l
 | [],b,_ => by simp [puts,flat]
 | s :: l,b,h => by
  have h0:0 < b.length:=List.length_pos_iff.2 h
  rw [puts,List.foldl_cons]
  have:=puts_flat l (putT b s) (by simp [putT,h0])
  rw [puts] at this
  rw [this,putT,if_pos h0,flat]
  simp
theorem puts_nil {s:List Nat} {l:Toks} (h:s ≠ []):puts [] (s :: l) = s ++ flat l:=by
 rw [puts,List.foldl_cons,show putT [] s = s by simp [putT]]
 exact puts_flat l s h
theorem split_tok:∀ {s s' r r':List Nat},32 ∉ s → 32 ∉ s' → (r = [] ∨ ∃ x,r = 32 :: x) → (r' = [] ∨ ∃ x,r' = 32 :: x) → s ++ r = s' ++ r' → s = s' ∧ r = r'
 | [],[],r,r',_,_,_,_,h => ⟨rfl,h⟩
 | [],b :: s',r,r',_,h2,h3,_,h => by
  rcases h3 with rfl | ⟨x,rfl⟩
  ·simp at h
  ·simp only [List.nil_append,List.cons_append,List.cons.injEq] at h
   exact absurd (by simp [h.1]) h2
 | a :: s,[],r,r',h1,_,_,h3,h => by
  rcases h3 with rfl | ⟨x,rfl⟩
  ·simp at h
  ·simp only [List.nil_append,List.cons_append,List.cons.injEq] at h
   exact absurd (by simp [h.1]) h1
 | a :: s,b :: s',r,r',h1,h2,h3,h4,h => by
  simp only [List.cons_append,List.cons.injEq] at h
  have:=split_tok (s:=s) (s':=s') (fun hc => h1 (by simp [hc])) (fun hc => h2 (by simp [hc])) h3 h4 h.2
  exact ⟨by rw [h.1,this.1],this.2⟩
theorem flat_head (l:Toks):flat l = [] ∨ ∃ x,flat l = 32 :: x:=by
 cases l with
 | nil => exact .inl rfl
 | cons s l => exact .inr ⟨_,rfl⟩
theorem flat_inj:∀ {l l':Toks},(∀ c ∈ l,TokOk c) → (∀ c ∈ l',TokOk c) → flat l = flat l' → l = l'
 | [],[],_,_,_ => rfl
 | [],_ :: _,_,_,h => by simp [flat] at h
 | _ :: _,[],_,_,h => by simp [flat] at h
 | s :: l,s' :: l',h1,h2,h => by
  simp only [flat,List.cons.injEq,true_and] at h
  have:=split_tok (h1 s (by simp)).2.1 (h2 s' (by simp)).2.1 (flat_head l) (flat_head l') h
  rw [this.1,flat_inj (fun c hc => h1 c (by simp [hc])) (fun c hc => h2 c (by simp [hc])) this.2]
theorem puts_inj {l l':Toks} (h1:∀ c ∈ l,TokOk c) (h2:∀ c ∈ l',TokOk c) (h:puts [] l = puts [] l'):l = l':=by
 cases l with
 | nil =>
  cases l' with
  | nil => rfl
  | cons s' l' =>
   have hs:=h2 s' (by simp)
   rw [puts_nil hs.1] at h
   have:s' = []:=by
    have:=congrArg List.length h
    simp [puts] at this
    exact List.eq_nil_of_length_eq_zero (by omega)
   exact absurd this hs.1
 | cons s l =>
  have hs:=h1 s (by simp)
  cases l' with
  | nil =>
   rw [puts_nil hs.1] at h
   have:s = []:=by
    have:=congrArg List.length h
    simp [puts] at this
    exact this.1
   exact absurd this hs.1
  | cons s' l' =>
   have hs':=h2 s' (by simp)
   rw [puts_nil hs.1,puts_nil hs'.1] at h
   have:=split_tok hs.2.1 hs'.2.1 (flat_head l) (flat_head l') h
   rw [this.1,flat_inj (fun c hc => h1 c (by simp [hc])) (fun c hc => h2 c (by simp [hc])) this.2]
theorem puts_byte:∀ (l:Toks) (b:List Nat),(∀ c ∈ l,TokOk c) → (∀ c ∈ b,c < 256) → ∀ c ∈ puts b l,c < 256
 | [],b,_,hb => hb
 | s :: l,b,hl,hb => by
  rw [puts,List.foldl_cons]
  refine puts_byte l (putT b s) (fun c hc => hl c (by simp [hc])) fun c hc => ?_
  unfold putT at hc
  rcases List.mem_append.1 hc with hc | hc
  ·split at hc
   ·rcases List.mem_append.1 hc with hc | hc
    ·exact hb c hc
    ·simp at hc; omega
   ·exact hb c hc
  ·exact (hl s (by simp)).2.2 c hc
theorem text_law {f g:Fo} (hf:f.Tx) (hg:g.Tx):puts [] f.toks = puts [] g.toks ↔ f.cmp g = 0:=by
 constructor
 ·intro h
  have h1:=puts_inj (Fo.tokOk f hf) (Fo.tokOk g hg) h
  have:=Fo.inj f g hf hg [] [] trivial trivial (by rw [h1])
  exact this.1
 ·intro h
  rw [Fo.same f g hf.pt hg.pt h]
def slen (l:Toks):Nat:=(l.map (fun c => c.length + 1)).sum
theorem slen_nil:slen [] = 0:=rfl
theorem slen_cons (c:List Nat) (l:Toks):slen (c :: l) = c.length + 1 + slen l:=by simp [slen]
theorem slen_app (a b:Toks):slen (a ++ b) = slen a + slen b:=by simp [slen]
theorem puts_len:∀ (l:Toks) (b:List Nat),(puts b l).length ≤ b.length + slen l
 | [],b => by simp [puts,slen]
 | s :: l,b => by
  rw [puts,List.foldl_cons]
  have:=puts_len l (putT b s)
  rw [puts] at this
  rw [slen_cons]
  have h2:(putT b s).length ≤ b.length + 1 + s.length:=by
   unfold putT
   split <;> simp <;> omega
  omega
mutual
theorem Ty.slen:∀ (t:Ty),t.nmd → ∀ r,t.dp r = false → Go.Proofs.L06.slen t.toks ≤ 50 * t.nd r
 | .mk nm k xs,h,0,hd => by simp [Ty.dp] at hd
 | .mk nm k xs,h,r + 1,hd => by
  simp only [Ty.nmd] at h
  simp only [Ty.dp] at hd
  have h1:=Ty.slens xs h.2 r hd
  simp only [Ty.toks,Ty.nd,Ty.xs]
  rcases h.1 with ⟨e,n⟩ | ⟨e,n⟩
  ·rw [if_neg (by omega),slen_cons,slen_nil]
   have:=n.2.2.2.1
   omega
  ·rw [if_pos e]
   simp only [slen_cons,slen_app,slen_nil,List.length_cons,List.length_nil]
   omega
theorem Ty.slens:∀ (xs:List Ty),Ty.nmds xs → ∀ r,xs.any (Ty.dp r) = false → Go.Proofs.L06.slen (Ty.hd xs) + Go.Proofs.L06.slen (Ty.hd2 xs) ≤ 50 * (xs.map (Ty.nd r)).sum
 | [],_,r,_ => by simp [Ty.hd,Ty.hd2,Go.Proofs.L06.slen]
 | [x],h,r,hd => by
  simp only [Ty.nmds] at h
  simp only [List.any_cons,List.any_nil,Bool.or_false] at hd
  have:=Ty.slen x h.1 r hd
  simp only [Ty.hd,Ty.hd2,slen_nil,List.map_cons,List.map_nil,List.sum_cons,List.sum_nil]
  omega
 | x :: y :: l,h,r,hd => by
  simp only [Ty.nmds] at h
  simp only [List.any_cons,Bool.or_eq_false_iff] at hd
  have h1:=Ty.slen x h.1 r hd.1
  have h2:=Ty.slen y h.2.1 r hd.2.1
  simp only [Ty.hd,Ty.hd2,List.map_cons,List.sum_cons]
  omega
end
theorem dig_len:∀ (k n:Nat),n < 10 ^ (k + 1) → (dig n).length ≤ k + 1
 | 0,n,h => by
  rw [dig,dif_pos (by simpa using h)]; simp
 | k + 1,n,h => by
  rw [dig]
  split
  ·simp
  ·have:=dig_len k (n / 10) (by rw [Nat.pow_succ] at h; omega)
   simp only [List.length_append,List.length_cons,List.length_nil]
   omega
theorem htok_len {kd n:Int} {nm:List Nat} {len:Nat} (h:nodeT kd n nm len = true) (h5:kd ≠ 5):(htok kd n nm).length ≤ 40:=by
 rcases node_cases h with ⟨rfl,rfl,h1⟩ | ⟨h1,hn,_⟩ | ⟨h1,_⟩
 ·exact h1.2.2.2.1
 ·have:=dig_len 5 n.toNat (by have:n.toNat ≤ 100000:=by omega
                              omega)
  rcases h1 with rfl | rfl | rfl <;> simp [htok,ltr] <;> omega
 ·exact absurd h1 h5
mutual
theorem Tm.slen:∀ (t:Tm),t.shp = true → Go.Proofs.L06.slen t.toks + 4 ≤ 60 * t.sz
 | .mk kd n nm k xs,h => by
  simp only [Tm.shp,Bool.and_eq_true] at h
  obtain ⟨h1,h2⟩:=Tm.slens xs h.2
  simp only [Tm.toks,Tm.sz]
  by_cases h5:kd = 5
  ·rw [if_pos h5]
   simp only [slen_cons,List.length_cons,List.length_nil]
   omega
  ·rw [if_neg h5]
   have:=htok_len h.1 h5
   simp only [slen_cons]
   omega
theorem Tm.slens:∀ (xs:List Tm),Tm.shps xs = true → Go.Proofs.L06.slen (Tm.hd xs) ≤ 60 * Tm.szs xs ∧ Go.Proofs.L06.slen (Tm.args xs) ≤ 60 * Tm.szs xs
 | [],_ => by simp [Tm.hd,Tm.args,Go.Proofs.L06.slen]
 | x :: xs,h => by
  simp only [Tm.shps,Bool.and_eq_true] at h
  have h1:=Tm.slen x h.1
  have h2:=(Tm.slens xs h.2).2
  simp only [Tm.hd,Tm.args,Tm.szs,slen_app]
  refine ⟨by omega,?_⟩
  split
  ·omega
  ·simp only [slen_cons,slen_app,slen_nil,List.length_cons,List.length_nil]
   omega
end
mutual
theorem Fo.slen:∀ (t:Fo),t.Tx → Go.Proofs.L06.slen t.toks ≤ 300000 * t.sz
 | .mk kd nm ka xs ty kl ls,h => by
  simp only [Fo.Tx] at h
  have h1:=Fo.slens ls h.2.2.2.2
  rw [toks_eq,slen_cons]
  simp only [Fo.sz]
  have hf:(ftok kd nm).length ≤ 40:=by
   by_cases e:kd = 1
   ·subst e; exact (h.2.1 rfl).1.2.2.2.1
   ·unfold ftok
    rw [if_neg e]
    repeat' split
    all_goals simp
  by_cases e2:kd = 4 ∨ kd = 5 ∨ kd = 6 ∨ kd = 7 ∨ kd = 8
  ·rw [frest_two e2]
   have ho:(opn kd).length ≤ 2:=by rcases e2 with rfl | rfl | rfl | rfl | rfl <;> decide
   simp only [slen_cons,slen_app,slen_nil,List.length_cons,List.length_nil]
   omega
  ·by_cases e1:kd = 1
   ·subst e1
    have:=(Tm.slens xs (h.2.1 rfl).2).2
    rw [show frest 1 xs ty ls = Tm.args xs from rfl]
    omega
   ·by_cases eq:kd = 10 ∨ kd = 11
    ·have ht:=h.2.2.1 eq
     have:=Ty.slen ty ht.1 100 ht.2.2
     unfold frest
     rw [if_neg (by omega),if_neg (by omega),if_neg (by omega),if_neg (by omega),if_neg (by omega),if_pos eq]
     simp only [slen_cons,slen_app,List.length_cons,List.length_nil]
     omega
    ·unfold frest
     rw [if_neg e1]
     split
     ·rw [slen_nil]; omega
     ·split
      ·rw [slen_nil]; omega
      ·split
       ·omega
       ·split
        ·simp only [slen_cons,slen_app,slen_nil,List.length_cons,List.length_nil]; omega
        ·have hp:=parts_cases h.1
         omega
theorem Fo.slens:∀ (xs:List Fo),Fo.Txs xs → Go.Proofs.L06.slen (Fo.hd xs) + Go.Proofs.L06.slen (Fo.hd2 xs) ≤ 300000 * Fo.szs xs
 | [],_ => by simp [Fo.hd,Fo.hd2,Go.Proofs.L06.slen]
 | [x],h => by
  simp only [Fo.Txs] at h
  have:=Fo.slen x h.1
  simp only [Fo.hd,Fo.hd2,Fo.szs,slen_nil]
  omega
 | x :: y :: l,h => by
  simp only [Fo.Txs] at h
  have h1:=Fo.slen x h.1
  have h2:=Fo.slen y h.2.1
  simp only [Fo.hd,Fo.hd2,Fo.szs]
  omega
end
theorem text_len {f:Fo} (hf:f.Tx) (h:f.sz ≤ 4000):slen f.toks < 10000000000:=by
 have:=Fo.slen f hf
 omega
end Go.Proofs.L06
