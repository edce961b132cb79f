/- The texts of formulas, plainly. -/
import Derived.Test.YtdlahjpoiichkaaGreatDoorS4
set_option linter.unusedVariables false
set_option linter.unusedSimpArgs false
set_option linter.unusedSectionVars false
namespace Go.Proofs.L06
open Go Go.AE
open Nat renaming reduceLT → rA,reduceLeDiff → rB,reduceEqDiff → rC,reduceMul → rD,reduceAdd → rE,reduceSub → rF
set_option maxHeartbeats 8000000
def cmpI (a b:Int):Int:=if a < b then -1 else if b < a then 1 else 0
def cmpN:List Nat → List Nat → Int
 | [],[] => 0
 | [],_ :: _ => -1
 | _ :: _,[] => 1
 | a :: x,b :: y => if a < b then -1 else if b < a then 1 else cmpN x y
def or0 (a b:Int):Int:=if a = 0 then b else a
mutual
def Ty.cmp:Ty → Ty → Int
 | .mk a _ xs,.mk b _ ys => or0 (cmpN a b) (or0 ((xs.length:Int) - ys.length) (Ty.cmps xs ys))
def Ty.cmps:List Ty → List Ty → Int
 | [],ys => -(ys.length:Int)
 | x :: xs,[] => (xs.length:Int) + 1
 | x :: xs,y :: ys => or0 (x.cmp y) (Ty.cmps xs ys)
end
mutual
def Tm.cmp:Tm → Tm → Int
 | .mk kd n nm _ xs,.mk kd' n' nm' _ ys => or0 (or0 (cmpI kd kd') (or0 (cmpI n n') (or0 (cmpN nm nm') (cmpI xs.length ys.length)))) (Tm.cmps xs ys)
def Tm.cmps:List Tm → List Tm → Int
 | [],[] => 0
 | [],_ :: _ => -1
 | _ :: _,[] => 1
 | x :: xs,y :: ys => or0 (x.cmp y) (Tm.cmps xs ys)
end
def Tm.cmpl:List Tm → List Tm → Int
 | [],ys => -(ys.length:Int)
 | x :: xs,[] => (xs.length:Int) + 1
 | x :: xs,y :: ys => or0 (x.cmp y) (Tm.cmpl xs ys)
mutual
def Fo.cmp:Fo → Fo → Int
 | .mk kd nm _ xs ty _ ls,.mk kd' nm' _ xs' ty' _ ls' =>
  if kd = kd' then
   (if kd = 1 then or0 (cmpN nm nm') (or0 ((xs.length:Int) - xs'.length) (Tm.cmpl xs xs')) else or0 (ty.cmp ty') (Fo.cmps ls ls'))
  else kd - kd'
def Fo.cmps:List Fo → List Fo → Int
 | [],ys => -(ys.length:Int)
 | x :: xs,[] => (xs.length:Int) + 1
 | x :: xs,y :: ys => or0 (x.cmp y) (Fo.cmps xs ys)
end
def sg (n:Int):Int:=max (-1) (min 1 n)
theorem sg_or0 (a b:Int):sg (or0 a b) = if a = 0 then sg b else sg a:=by unfold or0; split <;> rfl
theorem sg_z {a:Int}:sg a = 0 ↔ a = 0:=by unfold sg; omega
theorem or0_z {a b:Int}:or0 a b = 0 ↔ a = 0 ∧ b = 0:=by unfold or0; split <;> simp_all
theorem sg_cmpI (a b:Int):sg (cmpI a b) = cmpI a b:=by unfold sg cmpI; split <;> (try split) <;> omega
theorem cmpI_z {a b:Int}:cmpI a b = 0 ↔ a = b:=by unfold cmpI; split <;> (try split) <;> omega
theorem sg_cmpN:∀ a b:List Nat,sg (cmpN a b) = cmpN a b
 | [],[] => rfl
 | [],_ :: _ => rfl
 | _ :: _,[] => rfl
 | a :: x,b :: y => by
  rw [cmpN]
  split
  ·rfl
  ·split
   ·rfl
   ·exact sg_cmpN x y
theorem cmpN_z:∀ {a b:List Nat},cmpN a b = 0 ↔ a = b
 | [],[] => by simp [cmpN]
 | [],_ :: _ => by simp [cmpN]
 | _ :: _,[] => by simp [cmpN]
 | a :: x,b :: y => by
  rw [cmpN]
  split
  ·rename_i h; constructor
   ·intro h2; cases h2
   ·intro h2; rw [List.cons.injEq] at h2; omega
  ·split
   ·rename_i h; constructor
    ·intro h2; cases h2
    ·intro h2; rw [List.cons.injEq] at h2; omega
   ·rw [cmpN_z,List.cons.injEq]; constructor
    ·intro h; exact ⟨by omega,h⟩
    ·intro h; exact h.2
def skey (s:List Nat):List Int:=s.map (fun (c:Nat) => (c:Int) + 1) ++ [0]
mutual
def Ty.key:Ty → List Int | .mk nm _ xs => skey nm ++ ((xs.length:Int) :: Ty.keys xs)
def Ty.keys:List Ty → List Int | [] => [] | t :: r => t.key ++ Ty.keys r
end
mutual
def Tm.key:Tm → List Int | .mk kd n nm _ xs => kd :: n :: (skey nm ++ ((xs.length:Int) :: Tm.keys xs))
def Tm.keys:List Tm → List Int | [] => [] | t :: r => t.key ++ Tm.keys r
end
mutual
def Fo.key:Fo → List Int
 | .mk kd nm _ xs ty _ ls => kd :: (if kd = 1 then skey nm ++ ((xs.length:Int) :: Tm.keys xs) else ty.key ++ Fo.keys ls)
def Fo.keys:List Fo → List Int | [] => [] | t :: r => t.key ++ Fo.keys r
end
theorem Tm.cmpl_eq:∀ {t u:List Tm},t.length = u.length → Tm.cmpl t u = Tm.cmps t u
 | [],[],_ => by simp [Tm.cmpl,Tm.cmps]
 | [],_ :: _,h => by simp at h
 | _ :: _,[],h => by simp at h
 | x :: xs,y :: ys,h => by simp only [Tm.cmpl,Tm.cmps]; rw [Tm.cmpl_eq (by simpa using h)]
def parts (kd:Int):Int :=
 if kd = 1 ∨ kd = 2 ∨ kd = 3 then 0 else if kd = 4 ∨ kd = 5 ∨ kd = 6 ∨ kd = 7 ∨ kd = 8 then 2 else if kd = 9 ∨ kd = 10 ∨ kd = 11 ∨ kd = 12 then 1 else -1
end Go.Proofs.L06

namespace Go.Proofs.L06
open Go Go.AE
open Nat renaming reduceLT → rA,reduceLeDiff → rB,reduceEqDiff → rC,reduceMul → rD,reduceAdd → rE,reduceSub → rF
set_option maxHeartbeats 8000000
def NameOk (s:List Nat):Prop:=(∃ b r,s = b :: r ∧ 97 ≤ b ∧ b ≤ 122) ∧ (32 ∉ s) ∧ kwords.contains s = false ∧ s.length ≤ 40 ∧ ∀ c ∈ s,c < 256
theorem isP32:isP 32 = false:=by kernel_rfl
theorem letters_lt:(letters.all fun c => decide (c < 256)) = true:=by kernel_rfl
theorem isP_lt {c:Nat} (h:isP c = true):c < 256:=of_decide_eq_true (List.all_eq_true.1 letters_lt c (List.contains_iff_mem.1 h))
theorem runL_mem:∀ {s:List Nat} {c:Nat},c ∈ s.take (runL s) → isP c = true
 | [],c,h => by simp at h
 | b :: r,c,h => by
  unfold runL at h
  split at h
  ·rename_i hb
   rw [List.take_succ_cons] at h
   rcases List.mem_cons.1 h with rfl | h
   ·exact hb
   ·exact runL_mem h
  ·simp at h
theorem name_ok {s:List Nat} (h:chk1 1 s = true):NameOk s:=by
 rw [chk_eq (.inl rfl)] at h
 unfold rchk at h
 simp only [Bool.and_eq_true,decide_eq_true_iff,beq_iff_eq] at h
 obtain ⟨h0,h40,_,_,h1,h2,_⟩:=h
 obtain ⟨b,r,rfl⟩:∃ b r,s = b :: r:=by cases s with | nil => simp at h0 | cons b r => exact ⟨b,r,rfl⟩
 have h2':(rtok (b :: r)).2 = (b :: r).length:=by omega
 unfold rtok at h1 h2'
 have hT:tokF (b :: r) = some (1,(b :: r).length):=by
  cases e:tokF (b :: r) with
  | none => rw [e] at h1; cases h1
  | some x => rw [e] at h1 h2'; obtain ⟨k,n⟩:=x; simp only at h1 h2'; rw [h1,h2']
 unfold tokF at hT
 split at hT
 ·rename_i hs
  split at hT
  ·cases hT
  ·split at hT
   ·cases hT
   ·rename_i hk
    have hn:nameLen (b :: r) = (b :: r).length:=by injection hT with hT; injection hT
    rw [hn,List.take_length] at hk
    have hall:∀ c ∈ b :: r,isP c = true ∨ c = 64:=by
     intro c hc
     unfold nameLen at hn
     split at hn
     ·rename_i hd
      have hd2:=runL_le ((b :: r).drop (runL (b :: r) + 1))
      rw [List.length_drop] at hd2
      have e1:(b :: r) = (b :: r).take (runL (b :: r)) ++ (b :: r).getD (runL (b :: r)) 0 :: (b :: r).drop (runL (b :: r) + 1):=by
       have hlt:runL (b :: r) < (b :: r).length:=by omega
       rw [List.getD_eq_getElem?_getD,List.getElem?_eq_getElem hlt,Option.getD_some,← List.drop_eq_getElem_cons hlt,List.take_append_drop]
      rw [e1] at hc
      rcases List.mem_append.1 hc with hc | hc
      ·exact .inl (runL_mem hc)
      ·rcases List.mem_cons.1 hc with hc | hc
       ·rw [hd.2.1] at hc; exact .inr hc
       ·have h3:runL ((b :: r).drop (runL (b :: r) + 1)) = ((b :: r).drop (runL (b :: r) + 1)).length:=by rw [List.length_drop]; omega
        have:=@runL_mem ((b :: r).drop (runL (b :: r) + 1)) c
        rw [h3,List.take_length] at this
        exact .inl (this hc)
     ·have:=@runL_mem (b :: r) c
      rw [hn,List.take_length] at this
      exact .inl (this hc)
    refine ⟨⟨b,r,rfl,?_⟩,?_,?_,h40,fun c hc => ?_⟩
    ·unfold smallT at hs
     simp only [List.getD_cons_zero,Bool.and_eq_true,decide_eq_true_iff] at hs
     omega
    ·intro hc
     rcases hall 32 hc with h | h
     ·rw [isP32] at h; cases h
     ·cases h
    ·cases hk2:kwords.contains (b :: r) with
     | false => rfl
     | true => exact absurd hk2 hk
    ·rcases hall c hc with h | h
     ·exact isP_lt h
     ·omega
 ·split at hT
  ·cases hT
  ·split at hT
   ·cases hT
   ·split at hT
    ·split at hT <;> cases hT
    ·split at hT <;> cases hT
def dig (n:Nat):List Nat:=if h:n < 10 then [48 + n] else dig (n / 10) ++ [48 + n % 10]
 termination_by n
 decreasing_by omega
def undig (s:List Nat):Nat:=s.foldl (fun a c => 10 * a + (c - 48)) 0
theorem undig_dig (n:Nat):undig (dig n) = n:=by
 induction n using Nat.strongRecOn with
 | _ n ih =>
  rw [dig]
  split
  ·simp [undig]
  ·have:=ih (n / 10) (by omega)
   unfold undig at this ⊢
   rw [List.foldl_append,this]
   simp only [List.foldl_cons,List.foldl_nil]
   omega
theorem dig_mem (n:Nat):∀ c ∈ dig n,48 ≤ c ∧ c ≤ 57:=by
 induction n using Nat.strongRecOn with
 | _ n ih =>
  rw [dig]
  split
  ·intro c hc; simp at hc; omega
  ·intro c hc
   rcases List.mem_append.1 hc with hc | hc
   ·exact ih _ (by omega) c hc
   ·simp at hc; omega
abbrev Toks:=List (List Nat)
def ltr (kd:Int):List Nat:=if kd = 2 then [66] else if kd = 3 then [80] else if kd = 4 then [86] else []
def htok (kd n:Int) (nm:List Nat):List Nat:=if kd = 1 then nm else ltr kd ++ dig n.toNat
mutual
def Ty.toks:Ty → Toks | .mk nm _ xs => if xs.length = 2 then [40] :: (Ty.hd xs ++ [45,62] :: (Ty.hd2 xs ++ [[41]])) else [nm]
def Ty.hd:List Ty → Toks | [] => [] | t :: _ => t.toks
def Ty.hd2:List Ty → Toks | [] => [] | _ :: r => Ty.hd r
end
def Tm.isNil:Tm → Bool | .mk _ _ _ _ xs => xs.isEmpty
mutual
def Tm.toks:Tm → Toks | .mk kd n nm _ xs => if kd = 5 then [92] :: [46] :: Tm.hd xs else htok kd n nm :: Tm.args xs
def Tm.hd:List Tm → Toks | [] => [] | t :: _ => t.toks
def Tm.args:List Tm → Toks | [] => [] | t :: r => (if t.isNil then t.toks else [40] :: (t.toks ++ [[41]])) ++ Tm.args r
end
def opn (kd:Int):List Nat:=if kd = 4 then [42] else if kd = 5 then [38] else if kd = 6 then [43] else if kd = 7 then [45,111] else if kd = 8 then [61,62] else []
def qnt (kd:Int):List Nat:=if kd = 10 then [97,108,108] else if kd = 11 then [101,120] else []
mutual
def Fo.toks:Fo → Toks
 | .mk kd nm _ xs ty _ ls =>
  if kd = 1 then nm :: Tm.args xs
  else if kd = 2 then [[111,110,101]]
  else if kd = 3 then [[116,111,112]]
  else if kd = 9 then [33] :: Fo.hd ls
  else if kd = 12 then [123] :: (Fo.hd ls ++ [[125]])
  else if kd = 10 ∨ kd = 11 then qnt kd :: [58] :: (ty.toks ++ [46] :: Fo.hd ls)
  else [40] :: (Fo.hd ls ++ opn kd :: (Fo.hd2 ls ++ [[41]]))
def Fo.hd:List Fo → Toks | [] => [] | t :: _ => t.toks
def Fo.hd2:List Fo → Toks | [] => [] | _ :: r => Fo.hd r
end
mutual
def Ty.nmd:Ty → Prop | .mk nm _ xs => ((xs.length = 0 ∧ NameOk nm) ∨ (xs.length = 2 ∧ nm = [45,62])) ∧ Ty.nmds xs
def Ty.nmds:List Ty → Prop | [] => True | t :: r => t.nmd ∧ Ty.nmds r
end
mutual
def Fo.Tx:Fo → Prop
 | .mk kd nm _ xs ty _ ls => parts kd = (ls.length:Int) ∧ (kd = 1 → NameOk nm ∧ Tm.shps xs = true) ∧ (kd = 10 ∨ kd = 11 → ty.nmd ∧ ty.nd 100 ≤ 4000 ∧ ty.dp 100 = false) ∧ (kd ≠ 10 → kd ≠ 11 → ty.nm = [] ∧ ty.xs = []) ∧ Fo.Txs ls
def Fo.Txs:List Fo → Prop | [] => True | t :: r => t.Tx ∧ Fo.Txs r
end
theorem name_ne {s:List Nat} (h:NameOk s) {c:List Nat} (hc:∀ b r,c = b :: r → ¬ (97 ≤ b ∧ b ≤ 122)):s ≠ c:=by
 obtain ⟨⟨b,r,e,h1,h2⟩,_⟩:=h
 intro e2
 exact hc b r (by rw [← e2,e]) ⟨h1,h2⟩
theorem name_par {s:List Nat} (h:NameOk s):s ≠ [40]:=name_ne h fun b r e => by injection e with e; omega
mutual
theorem Ty.inj:∀ (t u:Ty),t.nmd → u.nmd → ∀ (r s:Toks),t.toks ++ r = u.toks ++ s → t.cmp u = 0 ∧ r = s
 | .mk nm k xs,.mk nm' k' ys,ht,hu,r,s,h => by
  simp only [Ty.nmd] at ht hu
  simp only [Ty.toks] at h
  simp only [Ty.cmp,or0_z]
  rcases ht.1 with ⟨e1,n1⟩ | ⟨e1,n1⟩
  ·rcases hu.1 with ⟨e2,n2⟩ | ⟨e2,n2⟩
   ·rw [if_neg (by omega),if_neg (by omega)] at h
    simp only [List.cons_append,List.nil_append,List.cons.injEq] at h
    obtain rfl:=List.eq_nil_of_length_eq_zero e1
    obtain rfl:=List.eq_nil_of_length_eq_zero e2
    exact ⟨⟨cmpN_z.2 h.1,by simp,by simp [Ty.cmps]⟩,h.2⟩
   ·rw [if_neg (by omega),if_pos e2] at h
    simp only [List.cons_append,List.nil_append,List.cons.injEq] at h
    exact absurd h.1 (name_par n1)
  ·rcases hu.1 with ⟨e2,n2⟩ | ⟨e2,n2⟩
   ·rw [if_pos e1,if_neg (by omega)] at h
    simp only [List.cons_append,List.nil_append,List.cons.injEq] at h
    exact absurd h.1.symm (name_par n2)
   ·rw [if_pos e1,if_pos e2] at h
    simp only [List.cons_append,List.nil_append,List.cons.injEq,true_and,List.append_assoc] at h
    have:=Ty.inj2 xs ys e1 e2 ht.2 hu.2 _ _ h
    exact ⟨⟨cmpN_z.2 (by rw [n1,n2]),by omega,this.1⟩,this.2⟩
theorem Ty.inj2:∀ (xs ys:List Ty),xs.length = 2 → ys.length = 2 → Ty.nmds xs → Ty.nmds ys → ∀ (r s:Toks),Ty.hd xs ++ [45,62] :: (Ty.hd2 xs ++ [41] :: r) = Ty.hd ys ++ [45,62] :: (Ty.hd2 ys ++ [41] :: s) → Ty.cmps xs ys = 0 ∧ r = s
 | [a,b],[c,d],_,_,hx,hy,r,s,h => by
  simp only [Ty.nmds] at hx hy
  simp only [Ty.hd,Ty.hd2] at h
  have h1:=Ty.inj a c hx.1 hy.1 _ _ h
  simp only [List.cons.injEq,true_and] at h1
  have h2:=Ty.inj b d hx.2.1 hy.2.1 _ _ h1.2
  simp only [List.cons.injEq,true_and] at h2
  refine ⟨?_,h2.2⟩
  simp only [Ty.cmps,or0_z]
  exact ⟨h1.1,h2.1,rfl⟩
 | [],_,e,_,_,_,_,_,_ => by simp at e
 | [_],_,e,_,_,_,_,_,_ => by simp at e
 | _ :: _ :: _ :: _,_,e,_,_,_,_,_,_ => by simp at e
 | [_,_],[],_,e,_,_,_,_,_ => by simp at e
 | [_,_],[_],_,e,_,_,_,_,_ => by simp at e
 | [_,_],_ :: _ :: _ :: _,_,e,_,_,_,_,_ => by simp at e
end
def stops:Toks:=[[41],[42],[38],[43],[45,111],[61,62],[125]]
def Stop:Toks → Prop | [] => True | c :: _ => c ∈ stops
def ltb (c:List Nat):Bool:=match c with | [] => false | b :: _ => (97 ≤ b && b ≤ 122) || (b == 66 || (b == 80 || b == 86))
theorem ltb_name {s:List Nat} (h:NameOk s):ltb s = true:=by
 obtain ⟨⟨b,r,rfl,h1,h2⟩,_⟩:=h
 simp [ltb,h1,h2]
theorem node_cases {kd n:Int} {nm:List Nat} {len:Nat} (h:nodeT kd n nm len = true) :
  (kd = 1 ∧ n = 0 ∧ NameOk nm) ∨ ((kd = 2 ∨ kd = 3 ∨ kd = 4) ∧ (0 ≤ n ∧ n ≤ 100000) ∧ nm = []) ∨ (kd = 5 ∧ n = 0 ∧ nm = [] ∧ len = 1):=by
 unfold nodeT at h
 split at h
 ·simp only [Bool.and_eq_true,beq_iff_eq,decide_eq_true_iff] at h
  exact .inl ⟨by assumption,h.1,name_ok h.2.1⟩
 ·split at h
  ·simp only [Bool.and_eq_true,decide_eq_true_iff,beq_iff_eq] at h
   exact .inr (.inl ⟨by assumption,⟨h.1,h.2.1⟩,h.2.2.1⟩)
  ·simp only [Bool.and_eq_true,decide_eq_true_iff,beq_iff_eq] at h
   exact .inr (.inr ⟨h.1,h.2.1,h.2.2.1,by omega⟩)
theorem ltb_htok {kd n:Int} {nm:List Nat} {len:Nat} (h:nodeT kd n nm len = true) (h5:kd ≠ 5):ltb (htok kd n nm) = true:=by
 rcases node_cases h with ⟨rfl,rfl,h1⟩ | ⟨rfl | rfl | rfl,_,_⟩ | ⟨h1,_⟩
 ·exact ltb_name h1
 ·rfl
 ·rfl
 ·rfl
 ·exact absurd h1 h5
theorem htok_inj {kd n kd' n':Int} {nm nm':List Nat} {len len':Nat} (h:nodeT kd n nm len = true) (h5:kd ≠ 5) (h':nodeT kd' n' nm' len' = true) (h5':kd' ≠ 5) (e:htok kd n nm = htok kd' n' nm'):kd = kd' ∧ n = n' ∧ nm = nm':=by
 have key:∀ {n n':Int},0 ≤ n → 0 ≤ n' → dig n.toNat = dig n'.toNat → n = n':=fun a b e => by
  have:=congrArg undig e
  rw [undig_dig,undig_dig] at this
  omega
 rcases node_cases h with ⟨rfl,rfl,h1⟩ | ⟨h1,h2,rfl⟩ | ⟨h1,_⟩
 ·rcases node_cases h' with ⟨rfl,rfl,h1'⟩ | ⟨h1',h2',rfl⟩ | ⟨h1',_⟩
  ·exact ⟨rfl,rfl,e⟩
  ·exfalso
   obtain ⟨⟨b,r,rfl,hb⟩,_⟩:=h1
   rcases h1' with rfl | rfl | rfl <;> (simp [htok,ltr] at e; omega)
  ·exact absurd h1' h5'
 ·rcases node_cases h' with ⟨rfl,rfl,h1'⟩ | ⟨h1',h2',rfl⟩ | ⟨h1',_⟩
  ·exfalso
   obtain ⟨⟨b,r,rfl,hb⟩,_⟩:=h1'
   rcases h1 with rfl | rfl | rfl <;> (simp [htok,ltr] at e; omega)
  ·rcases h1 with rfl | rfl | rfl <;> rcases h1' with rfl | rfl | rfl <;> simp [htok,ltr] at e <;> exact ⟨rfl,key h2.1 h2'.1 e,rfl⟩
  ·exact absurd h1' h5'
 ·exact absurd h1 h5
theorem stop_ltb {c:List Nat} {r:Toks} (h:Stop (c :: r)):ltb c = false ∧ c ≠ [40]:=by
 simp only [Stop,stops,List.mem_cons,List.not_mem_nil,or_false] at h
 rcases h with rfl | rfl | rfl | rfl | rfl | rfl | rfl <;> exact ⟨rfl,by decide⟩
theorem args_stop {t:Tm} {l:List Tm} (h:t.shp = true) {r:Toks} (hs:Stop (Tm.args (t :: l) ++ r)):False:=by
 obtain ⟨kd,n,nm,k,xs⟩:=t
 simp only [Tm.shp,Bool.and_eq_true] at h
 simp only [Tm.args] at hs
 by_cases hx:(Tm.mk kd n nm k xs).isNil = true
 ·rw [if_pos hx] at hs
  simp only [Tm.isNil] at hx
  obtain rfl:=List.isEmpty_iff.1 hx
  have h5:kd ≠ 5:=by
   rintro rfl
   rcases node_cases h.1 with ⟨h,_⟩ | ⟨h,_⟩ | ⟨_,_,_,h⟩
   ·cases h
   ·omega
   ·cases h
  simp only [Tm.toks,if_neg h5,List.cons_append] at hs
  have:=(stop_ltb hs).1
  rw [ltb_htok h.1 h5] at this
  cases this
 ·rw [if_neg hx] at hs
  simp only [List.cons_append] at hs
  exact (stop_ltb hs).2 rfl
mutual
theorem Tm.inj:∀ (t u:Tm),t.shp = true → u.shp = true → ∀ (r s:Toks),Stop r → Stop s → t.toks ++ r = u.toks ++ s → t.cmp u = 0 ∧ r = s
 | .mk kd n nm k xs,.mk kd' n' nm' k' ys,ht,hu,r,s,hr,hs,h => by
  simp only [Tm.shp,Bool.and_eq_true] at ht hu
  simp only [Tm.toks] at h
  simp only [Tm.cmp,or0_z,cmpI_z,cmpN_z]
  by_cases h5:kd = 5
  ·by_cases h5':kd' = 5
   ·subst h5; subst h5'
    rw [if_pos rfl,if_pos rfl] at h
    simp only [List.cons_append,List.cons.injEq,true_and] at h
    rcases node_cases ht.1 with ⟨e,_⟩ | ⟨e,_⟩ | ⟨_,rfl,rfl,e1⟩
    ·cases e
    ·omega
    ·rcases node_cases hu.1 with ⟨e,_⟩ | ⟨e,_⟩ | ⟨_,rfl,rfl,e2⟩
     ·cases e
     ·omega
     ·have:=Tm.injh xs ys e1 e2 ht.2 hu.2 r s hr hs h
      exact ⟨⟨⟨rfl,rfl,rfl,by omega⟩,this.1⟩,this.2⟩
   ·rw [if_pos h5,if_neg h5'] at h
    simp only [List.cons_append,List.cons.injEq] at h
    have:=ltb_htok hu.1 h5'
    rw [← h.1] at this; cases this
  ·by_cases h5':kd' = 5
   ·rw [if_neg h5,if_pos h5'] at h
    simp only [List.cons_append,List.cons.injEq] at h
    have:=ltb_htok ht.1 h5
    rw [h.1] at this; cases this
   ·rw [if_neg h5,if_neg h5'] at h
    simp only [List.cons_append,List.cons.injEq] at h
    obtain ⟨rfl,rfl,rfl⟩:=htok_inj ht.1 h5 hu.1 h5' h.1
    have:=Tm.injs xs ys ht.2 hu.2 r s hr hs h.2
    exact ⟨⟨⟨rfl,rfl,rfl,by omega⟩,this.2.1⟩,this.2.2⟩
theorem Tm.injh:∀ (xs ys:List Tm),xs.length = 1 → ys.length = 1 → Tm.shps xs = true → Tm.shps ys = true → ∀ (r s:Toks),Stop r → Stop s → Tm.hd xs ++ r = Tm.hd ys ++ s → Tm.cmps xs ys = 0 ∧ r = s
 | [x],[y],_,_,hx,hy,r,s,hr,hs,h => by
  simp only [Tm.shps,Bool.and_true] at hx hy
  simp only [Tm.hd] at h
  have:=Tm.inj x y hx hy r s hr hs h
  simp only [Tm.cmps,or0_z,and_true]
  exact this
 | [],_,e,_,_,_,_,_,_,_,_ => by simp at e
 | _ :: _ :: _,_,e,_,_,_,_,_,_,_,_ => by simp at e
 | [_],[],_,e,_,_,_,_,_,_,_ => by simp at e
 | [_],_ :: _ :: _,_,e,_,_,_,_,_,_,_ => by simp at e
theorem Tm.injs:∀ (xs ys:List Tm),Tm.shps xs = true → Tm.shps ys = true → ∀ (r s:Toks),Stop r → Stop s → Tm.args xs ++ r = Tm.args ys ++ s → xs.length = ys.length ∧ Tm.cmps xs ys = 0 ∧ r = s
 | [],[],_,_,r,s,_,_,h => by simp only [Tm.args,List.nil_append] at h; exact ⟨rfl,by simp [Tm.cmps],h⟩
 | [],y :: ys,_,hy,r,s,hr,hs,h => by
  simp only [Tm.shps,Bool.and_eq_true] at hy
  rw [show Tm.args [] = [] by simp [Tm.args],List.nil_append] at h
  rw [h] at hr
  exact (args_stop hy.1 hr).elim
 | x :: xs,[],hx,_,r,s,hr,hs,h => by
  simp only [Tm.shps,Bool.and_eq_true] at hx
  rw [show Tm.args [] = [] by simp [Tm.args],List.nil_append] at h
  rw [← h] at hs
  exact (args_stop hx.1 hs).elim
 | x :: xs,y :: ys,hx,hy,r,s,hr,hs,h => by
  simp only [Tm.shps,Bool.and_eq_true] at hx hy
  have fin:x.cmp y = 0 → Tm.args xs ++ r = Tm.args ys ++ s → (x :: xs).length = (y :: ys).length ∧ Tm.cmps (x :: xs) (y :: ys) = 0 ∧ r = s:=fun h1 h2 => by
   have:=Tm.injs xs ys hx.2 hy.2 r s hr hs h2
   refine ⟨by simp [this.1],?_,this.2.2⟩
   simp only [Tm.cmps,or0_z]
   exact ⟨h1,this.2.1⟩
  have one:∀ {t:Tm},t.shp = true → t.isNil = true → ∃ kd n nm k,t = .mk kd n nm k [] ∧ nodeT kd n nm 0 = true ∧ kd ≠ 5 ∧ t.toks = [htok kd n nm]:=fun {t} h1 h2 => by
   obtain ⟨kd,n,nm,k,l⟩:=t
   simp only [Tm.isNil] at h2
   obtain rfl:=List.isEmpty_iff.1 h2
   simp only [Tm.shp,Bool.and_eq_true] at h1
   have h5:kd ≠ 5:=by
    rintro rfl
    rcases node_cases h1.1 with ⟨h,_⟩ | ⟨h,_⟩ | ⟨_,_,_,h⟩
    ·cases h
    ·omega
    ·cases h
   exact ⟨kd,n,nm,k,rfl,h1.1,h5,by simp [Tm.toks,h5,Tm.args]⟩
  simp only [Tm.args,List.append_assoc] at h
  cases ex:x.isNil with
  | true =>
   obtain ⟨kd,n,nm,k,e1,e2,e3,e4⟩:=one hx.1 ex
   cases ey:y.isNil with
   | true =>
    obtain ⟨kd',n',nm',k',e1',e2',e3',e4'⟩:=one hy.1 ey
    simp only [ex,ey,if_true,e4,e4',List.cons_append,List.nil_append,List.cons.injEq] at h
    obtain ⟨rfl,rfl,rfl⟩:=htok_inj e2 e3 e2' e3' h.1
    refine fin ?_ h.2
    rw [e1,e1']
    simp only [Tm.cmp,or0_z,cmpI_z,cmpN_z,Tm.cmps,and_self]
   | false =>
    simp only [ex,ey,if_true,Bool.false_eq_true,if_false,e4,List.cons_append,List.nil_append,List.cons.injEq] at h
    have:=ltb_htok e2 e3
    rw [h.1] at this; cases this
  | false =>
   cases ey:y.isNil with
   | true =>
    obtain ⟨kd',n',nm',k',e1',e2',e3',e4'⟩:=one hy.1 ey
    simp only [ex,ey,if_true,Bool.false_eq_true,if_false,e4',List.cons_append,List.nil_append,List.cons.injEq] at h
    have:=ltb_htok e2' e3'
    rw [← h.1] at this; cases this
   | false =>
    simp only [ex,ey,Bool.false_eq_true,if_false,List.cons_append,List.nil_append,List.cons.injEq,true_and,List.append_assoc] at h
    have:=Tm.inj x y hx.1 hy.1 _ _ (by simp [Stop,stops]) (by simp [Stop,stops]) h
    simp only [List.cons.injEq,true_and] at this
    exact fin this.1 this.2
end
theorem name_kw {s:List Nat} (h:NameOk s) {c:List Nat} (hc:kwords.contains c = true):s ≠ c:=by
 rintro rfl
 have:=h.2.2.1
 rw [hc] at this; cases this
theorem parts_cases {kd:Int} {n:Nat} (h:parts kd = (n:Int)) :
  ((kd = 1 ∨ kd = 2 ∨ kd = 3) ∧ n = 0) ∨ ((kd = 4 ∨ kd = 5 ∨ kd = 6 ∨ kd = 7 ∨ kd = 8) ∧ n = 2) ∨ ((kd = 9 ∨ kd = 10 ∨ kd = 11 ∨ kd = 12) ∧ n = 1):=by
 unfold parts at h
 split at h
 ·exact .inl ⟨by assumption,by omega⟩
 ·split at h
  ·exact .inr (.inl ⟨by assumption,by omega⟩)
  ·split at h
   ·exact .inr (.inr ⟨by assumption,by omega⟩)
   ·omega
def cls (kd:Int):Nat:=if kd = 1 then 1 else if kd = 2 then 2 else if kd = 3 then 3 else if kd = 9 then 9 else if kd = 12 then 12 else if kd = 10 then 10 else if kd = 11 then 11 else 4
def ftok (kd:Int) (nm:List Nat):List Nat:=if kd = 1 then nm else if kd = 2 then [111,110,101] else if kd = 3 then [116,111,112] else if kd = 9 then [33] else if kd = 12 then [123] else if kd = 10 then [97,108,108] else if kd = 11 then [101,120] else [40]
def frest (kd:Int) (xs:List Tm) (ty:Ty) (ls:List Fo):Toks :=
 if kd = 1 then Tm.args xs else if kd = 2 then [] else if kd = 3 then [] else if kd = 9 then Fo.hd ls else if kd = 12 then Fo.hd ls ++ [[125]]
 else if kd = 10 ∨ kd = 11 then [58] :: (ty.toks ++ [46] :: Fo.hd ls) else Fo.hd ls ++ opn kd :: (Fo.hd2 ls ++ [[41]])
theorem toks_eq (kd:Int) (nm:List Nat) (ka:SK) (xs:List Tm) (ty:Ty) (kl:SK) (ls:List Fo):(Fo.mk kd nm ka xs ty kl ls).toks = ftok kd nm :: frest kd xs ty ls:=by
 rw [Fo.toks]
 unfold ftok frest
 repeat' split
 all_goals first | rfl | (simp_all [qnt]; done) | omega
def tcls (c:List Nat):Nat :=
 if c = [111,110,101] then 2 else if c = [116,111,112] then 3 else if c = [33] then 9 else if c = [123] then 12
 else if c = [97,108,108] then 10 else if c = [101,120] then 11 else if c = [40] then 4 else 1
theorem tcls_name {s:List Nat} (h:NameOk s):tcls s = 1:=by
 unfold tcls
 rw [if_neg (name_kw h (by kernel_rfl)),if_neg (name_kw h (by kernel_rfl)),if_neg (name_ne h fun b r e => by (injection e with e; omega)),if_neg (name_ne h fun b r e => by (injection e with e; omega)),
  if_neg (name_kw h (by kernel_rfl)),if_neg (name_kw h (by kernel_rfl)),if_neg (name_par h)]
theorem cls_ftok {kd:Int} {nm:List Nat} (h:kd = 1 → NameOk nm):cls kd = tcls (ftok kd nm):=by
 by_cases h1:kd = 1
 ·subst h1
  rw [show ftok 1 nm = nm from rfl,tcls_name (h rfl)]; rfl
 ·unfold cls ftok
  rw [if_neg h1,if_neg h1]
  repeat' split
  all_goals rfl
theorem cls_cases {kd kd':Int} {n n':Nat} (h:parts kd = (n:Int)) (h':parts kd' = (n':Int)) (e:cls kd = cls kd') :
  (kd = kd' ∧ (kd = 1 ∨ kd = 2 ∨ kd = 3 ∨ kd = 9 ∨ kd = 10 ∨ kd = 11 ∨ kd = 12)) ∨ ((kd = 4 ∨ kd = 5 ∨ kd = 6 ∨ kd = 7 ∨ kd = 8) ∧ (kd' = 4 ∨ kd' = 5 ∨ kd' = 6 ∨ kd' = 7 ∨ kd' = 8)):=by
 have key:∀ {kd:Int} {n:Nat},parts kd = (n:Int) → ((kd = 4 ∨ kd = 5 ∨ kd = 6 ∨ kd = 7 ∨ kd = 8) ∧ cls kd = 4) ∨ (kd = (cls kd:Int) ∧ cls kd ≠ 4 ∧ (kd = 1 ∨ kd = 2 ∨ kd = 3 ∨ kd = 9 ∨ kd = 10 ∨ kd = 11 ∨ kd = 12)):=fun {kd n} h => by
  rcases parts_cases h with ⟨rfl | rfl | rfl,_⟩ | ⟨rfl | rfl | rfl | rfl | rfl,_⟩ | ⟨rfl | rfl | rfl | rfl,_⟩ <;> decide
 rcases key h with ⟨a,b⟩ | ⟨a,b,c⟩
 ·rcases key h' with ⟨a',b'⟩ | ⟨a',b',c'⟩
  ·exact .inr ⟨a,a'⟩
  ·exact absurd (e ▸ b) b'
 ·rcases key h' with ⟨a',b'⟩ | ⟨a',b',c'⟩
  ·exact absurd (e.symm ▸ b') b
  ·exact .inl ⟨by rw [a,a',e],c⟩
theorem opn_inj {kd kd':Int} (h:kd = 4 ∨ kd = 5 ∨ kd = 6 ∨ kd = 7 ∨ kd = 8) (h':kd' = 4 ∨ kd' = 5 ∨ kd' = 6 ∨ kd' = 7 ∨ kd' = 8) (e:opn kd = opn kd'):kd = kd':=by
 rcases h with rfl | rfl | rfl | rfl | rfl <;> rcases h' with rfl | rfl | rfl | rfl | rfl <;> first | rfl | (exfalso; revert e; decide)
theorem opn_stop {kd:Int} (h:kd = 4 ∨ kd = 5 ∨ kd = 6 ∨ kd = 7 ∨ kd = 8) {r:Toks}:Stop (opn kd :: r):=by
 rcases h with rfl | rfl | rfl | rfl | rfl <;> simp [Stop,stops,opn]
theorem frest_two {kd:Int} (h:kd = 4 ∨ kd = 5 ∨ kd = 6 ∨ kd = 7 ∨ kd = 8) (xs:List Tm) (ty:Ty) (ls:List Fo):frest kd xs ty ls = Fo.hd ls ++ opn kd :: (Fo.hd2 ls ++ [[41]]):=by
 rcases h with rfl | rfl | rfl | rfl | rfl <;> rfl
theorem ty_plain {ty ty':Ty} (h:ty.nm = [] ∧ ty.xs = []) (h':ty'.nm = [] ∧ ty'.xs = []):ty.cmp ty' = 0:=by
 obtain ⟨nm,k,xs⟩:=ty
 obtain ⟨nm',k',xs'⟩:=ty'
 simp only [Ty.nm,Ty.xs] at h h'
 obtain ⟨rfl,rfl⟩:=h
 obtain ⟨rfl,rfl⟩:=h'
 simp [Ty.cmp,or0,cmpN,Ty.cmps]
mutual
theorem Fo.inj:∀ (t u:Fo),t.Tx → u.Tx → ∀ (r s:Toks),Stop r → Stop s → t.toks ++ r = u.toks ++ s → t.cmp u = 0 ∧ r = s
 | .mk kd nm ka xs ty kl ls,.mk kd' nm' ka' xs' ty' kl' ls',ht,hu,r,s,hr,hs,h => by
  simp only [Fo.Tx] at ht hu
  rw [toks_eq,toks_eq,List.cons_append,List.cons_append,List.cons.injEq] at h
  simp only [Fo.cmp]
  have hc:cls kd = cls kd':=by rw [cls_ftok fun e => (ht.2.1 e).1,cls_ftok fun e => (hu.2.1 e).1,h.1]
  have hp1:=parts_cases ht.1
  have hp2:=parts_cases hu.1
  have hl:ls.length = ls'.length → kd ≠ 1 → kd ≠ 10 → kd ≠ 11 → kd' ≠ 10 → kd' ≠ 11 → ty.cmp ty' = 0:=fun _ _ a b c d => ty_plain (ht.2.2.2.1 a b) (hu.2.2.2.1 c d)
  rcases cls_cases ht.1 hu.1 hc with ⟨rfl,e⟩ | ⟨e,e'⟩
  ·rw [if_pos rfl]
   rcases e with rfl | rfl | rfl | rfl | rfl | rfl | rfl
   ·rw [if_pos rfl]
    have h3:=Tm.injs xs xs' (ht.2.1 rfl).2 (hu.2.1 rfl).2 r s hr hs h.2
    rw [Tm.cmpl_eq h3.1]
    simp only [or0_z,cmpN_z]
    exact ⟨⟨h.1,by omega,h3.2.1⟩,h3.2.2⟩
   ·rw [if_neg (by decide)]
    simp only [or0_z]
    have h0:ls.length = 0 ∧ ls'.length = 0:=by omega
    exact ⟨⟨hl (by omega) (by decide) (by decide) (by decide) (by decide) (by decide),Fo.inj0 ls ls' h0.1 h0.2⟩,h.2⟩
   ·rw [if_neg (by decide)]
    simp only [or0_z]
    have h0:ls.length = 0 ∧ ls'.length = 0:=by omega
    exact ⟨⟨hl (by omega) (by decide) (by decide) (by decide) (by decide) (by decide),Fo.inj0 ls ls' h0.1 h0.2⟩,h.2⟩
   ·rw [if_neg (by decide)]
    simp only [or0_z]
    have h3:=Fo.inj1 ls ls' (by omega) (by omega) ht.2.2.2.2 hu.2.2.2.2 r s hr hs h.2
    exact ⟨⟨hl (by omega) (by decide) (by decide) (by decide) (by decide) (by decide),h3.1⟩,h3.2⟩
   ·rw [if_neg (by decide)]
    simp only [or0_z]
    have h2:Ty.toks ty ++ ([46] :: (Fo.hd ls ++ r)) = Ty.toks ty' ++ ([46] :: (Fo.hd ls' ++ s)):=by
     have:=h.2
     simp only [frest,Int.reduceEq,if_false,or_false,if_true,List.cons_append,List.cons.injEq,true_and,List.append_assoc] at this
     exact this
    have h4:=Ty.inj ty ty' (ht.2.2.1 (by decide)).1 (hu.2.2.1 (by decide)).1 _ _ h2
    simp only [List.cons.injEq,true_and] at h4
    have h3:=Fo.inj1 ls ls' (by omega) (by omega) ht.2.2.2.2 hu.2.2.2.2 r s hr hs h4.2
    exact ⟨⟨h4.1,h3.1⟩,h3.2⟩
   ·rw [if_neg (by decide)]
    simp only [or0_z]
    have h2:Ty.toks ty ++ ([46] :: (Fo.hd ls ++ r)) = Ty.toks ty' ++ ([46] :: (Fo.hd ls' ++ s)):=by
     have:=h.2
     simp only [frest,Int.reduceEq,if_false,or_true,if_true,List.cons_append,List.cons.injEq,true_and,List.append_assoc] at this
     exact this
    have h4:=Ty.inj ty ty' (ht.2.2.1 (by decide)).1 (hu.2.2.1 (by decide)).1 _ _ h2
    simp only [List.cons.injEq,true_and] at h4
    have h3:=Fo.inj1 ls ls' (by omega) (by omega) ht.2.2.2.2 hu.2.2.2.2 r s hr hs h4.2
    exact ⟨⟨h4.1,h3.1⟩,h3.2⟩
   ·rw [if_neg (by decide)]
    simp only [or0_z]
    have h2:Fo.hd ls ++ ([125] :: r) = Fo.hd ls' ++ ([125] :: s):=by
     have:=h.2
     simp only [frest,Int.reduceEq,if_false,if_true,List.append_assoc,List.cons_append,List.nil_append] at this
     exact this
    have h3:=Fo.inj1 ls ls' (by omega) (by omega) ht.2.2.2.2 hu.2.2.2.2 _ _ (by simp [Stop,stops]) (by simp [Stop,stops]) h2
    simp only [List.cons.injEq,true_and] at h3
    exact ⟨⟨hl (by omega) (by decide) (by decide) (by decide) (by decide) (by decide),h3.1⟩,h3.2⟩
  ·rw [frest_two e,frest_two e'] at h
   have h2:=h.2
   simp only [List.append_assoc,List.cons_append,List.nil_append] at h2
   have h3:=Fo.inj2 ls ls' (by omega) (by omega) ht.2.2.2.2 hu.2.2.2.2 (opn kd) (opn kd') (fun _ => opn_stop e) (fun _ => opn_stop e') r s h2
   obtain rfl:=opn_inj e e' h3.1
   rw [if_pos rfl,if_neg (by omega)]
   simp only [or0_z]
   exact ⟨⟨hl (by omega) (by omega) (by omega) (by omega) (by omega) (by omega),h3.2.1⟩,h3.2.2⟩
theorem Fo.inj0:∀ (ls ls':List Fo),ls.length = 0 → ls'.length = 0 → Fo.cmps ls ls' = 0
 | [],[],_,_ => rfl
 | _ :: _,_,h,_ => by simp at h
 | [],_ :: _,_,h => by simp at h
theorem Fo.inj1:∀ (ls ls':List Fo),ls.length = 1 → ls'.length = 1 → Fo.Txs ls → Fo.Txs ls' → ∀ (r s:Toks),Stop r → Stop s → Fo.hd ls ++ r = Fo.hd ls' ++ s → Fo.cmps ls ls' = 0 ∧ r = s
 | [x],[y],_,_,hx,hy,r,s,hr,hs,h => by
  simp only [Fo.Txs] at hx hy
  simp only [Fo.hd] at h
  have:=Fo.inj x y hx.1 hy.1 r s hr hs h
  simp only [Fo.cmps,or0_z]
  exact ⟨⟨this.1,rfl⟩,this.2⟩
 | [],_,e,_,_,_,_,_,_,_,_ => by simp at e
 | _ :: _ :: _,_,e,_,_,_,_,_,_,_,_ => by simp at e
 | [_],[],_,e,_,_,_,_,_,_,_ => by simp at e
 | [_],_ :: _ :: _,_,e,_,_,_,_,_,_,_ => by simp at e
theorem Fo.inj2:∀ (ls ls':List Fo),ls.length = 2 → ls'.length = 2 → Fo.Txs ls → Fo.Txs ls' → ∀ (o o':List Nat),(∀ r:Toks,Stop (o :: r)) → (∀ r:Toks,Stop (o' :: r)) → ∀ (r s:Toks),Fo.hd ls ++ o :: (Fo.hd2 ls ++ [41] :: r) = Fo.hd ls' ++ o' :: (Fo.hd2 ls' ++ [41] :: s) → o = o' ∧ Fo.cmps ls ls' = 0 ∧ r = s
 | [a,b],[c,d],_,_,hx,hy,o,o',ho,ho',r,s,h => by
  simp only [Fo.Txs] at hx hy
  simp only [Fo.hd,Fo.hd2] at h
  have h1:=Fo.inj a c hx.1 hy.1 _ _ (ho _) (ho' _) h
  simp only [List.cons.injEq] at h1
  have h2:=Fo.inj b d hx.2.1 hy.2.1 _ _ (by simp [Stop,stops]) (by simp [Stop,stops]) h1.2.2
  simp only [List.cons.injEq,true_and] at h2
  refine ⟨h1.2.1,?_,h2.2⟩
  simp only [Fo.cmps,or0_z]
  exact ⟨h1.1,h2.1,rfl⟩
 | [],_,e,_,_,_,_,_,_,_,_,_,_ => by simp at e
 | [_],_,e,_,_,_,_,_,_,_,_,_,_ => by simp at e
 | _ :: _ :: _ :: _,_,e,_,_,_,_,_,_,_,_,_,_ => by simp at e
 | [_,_],[],_,e,_,_,_,_,_,_,_,_,_ => by simp at e
 | [_,_],[_],_,e,_,_,_,_,_,_,_,_,_ => by simp at e
 | [_,_],_ :: _ :: _ :: _,_,e,_,_,_,_,_,_,_,_,_ => by simp at e
end
def putT (b:List Nat) (s:List Nat):List Nat:=(if 0 < b.length then b ++ [32] else b) ++ s
def puts (b:List Nat) (l:Toks):List Nat:=l.foldl putT b
def flat:Toks → List Nat | [] => [] | s :: l => 32 :: (s ++ flat l)
theorem puts_flat:∀ (l:Toks) (b:List Nat),b ≠ [] → puts b l = b ++ flat l
 | [],b,_ => by simp [puts,flat]
 | s :: l,b,h => by
  have h0:0 < b.length:=List.length_pos_iff.2 h
  rw [puts,List.foldl_cons]
  have:=puts_flat l (putT b s) (by simp [putT,h0])
  rw [puts] at this
  rw [this,putT,if_pos h0,flat]
  simp
theorem dig_len:∀ (k n:Nat),n < 10 ^ (k + 1) → (dig n).length ≤ k + 1
 | 0,n,h => by
  rw [dig,dif_pos (by simpa using h)]; simp
 | k + 1,n,h => by
  rw [dig]
  split
  ·simp
  ·have:=dig_len k (n / 10) (by rw [Nat.pow_succ] at h; omega)
   simp only [List.length_append,List.length_cons,List.length_nil]
   omega
end Go.Proofs.L06
