/- An abstract interpreter over a loaded program and its soundness against the model, part 7: for every context that fits the program. -/
import Derived.Test.YtdlahjpoiichkaaGreatDoorE6
set_option linter.unusedVariables false
set_option linter.unusedSimpArgs false
set_option linter.unusedSectionVars false
namespace Go.AE
open Go
theorem call_by {C:Ctx} {f:FuncId} {fi:FI} {x:XC} {args:List AV} {st:St} {r:CR × St × Option AV} (hf:C.fn f = some fi) (hX:C.X f args st = none) (hx:codeOf C f fi = x) {mu:Bool} (hmu:C.mu f = mu)
  (h:(execX (callW C) C mu none f none x ⟨argTmps args,max fi.ntmps args.length,[],none⟩ ⟨st.heap,st.next,[]⟩).bind (fun o => finishFn (callW C) C f fi .normal st o.1 o.2.1 o.2.2) = some r) :
  callW C (.fn f) args .normal st = some r:=by
 refine callW_fn hf hX ?_
 unfold enterFn
 rw [exec_codeOf,hx,hmu]
 simp only [Knd.pv]
 cases hq:execX (callW C) C mu none f none x ⟨argTmps args,max fi.ntmps args.length,[],none⟩ ⟨st.heap,st.next,[]⟩ with
 | none => rw [hq] at h; cases h
 | some o => rw [hq] at h; exact h
theorem id_false:¬ False:=id
def seqK (k:Fr → St → Option Out):Out → Option Out
 | (.norm,fr,st) => k fr st
 | r => some r
def blockK (id:Nat):Out → Option Out
 | (.exit i,fr,st) => if i = id then some (.norm,fr,st) else some (.exit i,fr,st)
 | r => some r
theorem seqK_norm {k:Fr → St → Option Out} {fr:Fr} {st:St}:seqK k (.norm,fr,st) = k fr st:=(rfl)
theorem seqK_ret {k:Fr → St → Option Out} {fr:Fr} {st:St}:seqK k (.ret,fr,st) = some (.ret,fr,st):=(rfl)
theorem seqK_exit {k:Fr → St → Option Out} {i:Nat} {fr:Fr} {st:St}:seqK k (.exit i,fr,st) = some (.exit i,fr,st):=(rfl)
theorem seqK_pan {k:Fr → St → Option Out} {v:AV} {fr:Fr} {st:St}:seqK k (.pan v,fr,st) = some (.pan v,fr,st):=(rfl)
theorem blockK_norm {id:Nat} {fr:Fr} {st:St}:blockK id (.norm,fr,st) = some (.norm,fr,st):=(rfl)
theorem blockK_ret {id:Nat} {fr:Fr} {st:St}:blockK id (.ret,fr,st) = some (.ret,fr,st):=(rfl)
theorem blockK_pan {id:Nat} {v:AV} {fr:Fr} {st:St}:blockK id (.pan v,fr,st) = some (.pan v,fr,st):=(rfl)
theorem blockK_hit {id:Nat} {fr:Fr} {st:St}:blockK id (.exit id,fr,st) = some (.norm,fr,st):=if_pos rfl
theorem blockK_miss {id i:Nat} {fr:Fr} {st:St} (h:(i = id) = False):blockK id (.exit i,fr,st) = some (.exit i,fr,st):=if_neg (by rw [h]; exact id_false)
section
variable {call:CallF} {C:Ctx} {mu mu2 ro:Bool} {fr:Fr} {st:St} {d:Option Tmp} {l:List XR} {n:Option Nat} {self:FuncId} {ro':Option Nat}
theorem put_mk {t:Nat → AV} {m:Nat} {ds:List ADef} {p:Option AV} {x:Nat} {v:AV} (h:x < m):Fr.put ⟨t,m,ds,p⟩ (some x) v = ⟨upd t x v,m,ds,p⟩:=by simp only [Fr.put,if_pos h]
theorem put_none {v:AV}:Fr.put fr none v = fr:=(rfl)
theorem val_t {t:Nat → AV} {m:Nat} {ds:List ADef} {p:Option AV} {k:Nat}:XO.val ⟨t,m,ds,p⟩ (.t k) = t k:=(rfl)
theorem val_c {v:AV}:XO.val fr (.c v) = v:=(rfl)
theorem push_mk {h:Nat → AO} {k:Nat} {lg:List Nat} {o:AO}:St.push ⟨h,k,lg⟩ o = ⟨upd h k o,k + 1,lg⟩:=(rfl)
theorem set_mk {h:Nat → AO} {k:Nat} {lg:List Nat} {q:Nat} {o:AO}:St.set ⟨h,k,lg⟩ q o = ⟨upd h q o,k,q :: lg⟩:=(rfl)
theorem runX_nil:runX call C mu ro [] fr st = some (.norm,fr,st):=(rfl)
theorem runX_tt {o:XOp} {t:Nat} (h:fr.tmps t = .bool true):runX call C mu ro (⟨d,o,some (some t,true)⟩ :: l) fr st = runX call C mu ro (⟨d,o,none⟩ :: l) fr st:=by
 simp only [runX,guardA,h,beq_self_eq_true]
theorem runX_ff {o:XOp} {t:Nat} (h:fr.tmps t = .bool false):runX call C mu ro (⟨d,o,some (some t,false)⟩ :: l) fr st = runX call C mu ro (⟨d,o,none⟩ :: l) fr st:=by
 simp only [runX,guardA,h,beq_self_eq_true]
theorem runX_tf {o:XOp} {t:Nat} (h:fr.tmps t = .bool false):runX call C mu ro (⟨d,o,some (some t,true)⟩ :: l) fr st = runX call C mu ro l (fr.put d undefA) st:=by
 simp only [runX,guardA,h]; rfl
theorem runX_ft {o:XOp} {t:Nat} (h:fr.tmps t = .bool true):runX call C mu ro (⟨d,o,some (some t,false)⟩ :: l) fr st = runX call C mu ro l (fr.put d undefA) st:=by
 simp only [runX,guardA,h]; rfl
theorem runX_mv {x:XO}:runX call C mu ro (⟨d,.mv x,none⟩ :: l) fr st = runX call C mu ro l (fr.put d (x.val fr)) st:=(rfl)
theorem runX_pt {c a b:XO} (h:c.val fr = .bool true):runX call C mu ro (⟨d,.pick c a b,none⟩ :: l) fr st = runX call C mu ro l (fr.put d (a.val fr)) st:=by
 simp only [runX,guardA,Option.bind_some,if_true,runOpX,opX,h]
theorem runX_pf {c a b:XO} (h:c.val fr = .bool false):runX call C mu ro (⟨d,.pick c a b,none⟩ :: l) fr st = runX call C mu ro l (fr.put d (b.val fr)) st:=by
 simp only [runX,guardA,Option.bind_some,if_true,runOpX,opX,h,Bool.false_eq_true,if_false]
theorem runX_alloc {e:TypeId} {z:List AV}:runX call C mu ro (⟨d,.alloc e z,none⟩ :: l) fr st = runX call C mu ro l (fr.put d (.ptr st.next 0)) (st.push (.mem e z true 0)):=(rfl)
theorem runX_box {e:TypeId} {x:XO} (h:(x.val fr).isAny = false):runX call C mu ro (⟨d,.box e x,none⟩ :: l) fr st = runX call C mu ro l (fr.put d (.ptr st.next 0)) (st.push (.mem e (x.val fr).cells true 0)):=by
 simp only [runX,guardA,Option.bind_some,if_true,runOpX,opX,h,Bool.false_eq_true,if_false]
theorem ov_run {o:XOp} {r:Option AV} (ho:opX C mu ro fr st o = ov st r) (hc:callX call C d fr st o = none):runX call C mu ro (⟨d,o,none⟩ :: l) fr st = r.bind fun v => runX call C mu ro l (fr.put d v) st:=by
 simp only [runX,guardA,Option.bind_some,if_true,runOpX,ho]
 cases r with
 | none => simp [ov,hc]
 | some v => rfl
theorem ovs_run {o:XOp} {r:Option (AV × St)} (ho:opX C mu ro fr st o = ovs r) (hc:callX call C d fr st o = none):runX call C mu ro (⟨d,o,none⟩ :: l) fr st = r.bind fun v => runX call C mu ro l (fr.put d v.1) v.2:=by
 simp only [runX,guardA,Option.bind_some,if_true,runOpX,ho]
 cases r with
 | none => simp [ovs,hc]
 | some v => rfl
theorem runX_build {z:List AV} {pl:List (Nat × Nat)} {ps:List (Nat × XO)}:runX call C mu ro (⟨d,.build z pl ps,none⟩ :: l) fr st = (fillA (pl[·]?) z (partsX fr ps)).bind fun v => runX call C mu ro l (fr.put d (.agg v)) st:=by
 rw [ov_run (r:=(fillA (pl[·]?) z (partsX fr ps)).map .agg) rfl rfl]
 cases fillA (pl[·]?) z (partsX fr ps) <;> rfl
theorem runX_load {agg:Bool} {size:Nat} {x:XO}:runX call C mu ro (⟨d,.load agg size x,none⟩ :: l) fr st = (ldX st agg size (x.val fr)).bind fun v => runX call C mu ro l (fr.put d v) st:=ov_run rfl rfl
theorem runX_binI {op:BinOp} {t:TypeId} {xo yo:Operand} {x y:XO}:runX call C mu ro (⟨d,.binI op t xo yo x y,none⟩ :: l) fr st = (binIX C op t xo yo (x.val fr) (y.val fr)).bind fun v => runX call C mu ro l (fr.put d v) st:=ov_run rfl rfl
theorem runX_binS {op:BinOp} {t:TypeId} {xo yo:Operand} {x y:XO}:runX call C mu ro (⟨d,.binS op t xo yo x y,none⟩ :: l) fr st = (binSX C op t xo yo (x.val fr) (y.val fr)).bind fun v => runX call C mu ro l (fr.put d v) st:=ov_run rfl rfl
theorem runX_un {op:UnOp} {x:XO}:runX call C mu ro (⟨d,.un op x,none⟩ :: l) fr st = (unA op (x.val fr)).bind fun v => runX call C mu ro l (fr.put d v) st:=ov_run rfl rfl
theorem runX_fieldAddr {off:Nat} {x:XO}:runX call C mu ro (⟨d,.fieldAddr off x,none⟩ :: l) fr st = (addrX off (x.val fr)).bind fun v => runX call C mu ro l (fr.put d v) st:=ov_run rfl rfl
def idxK (size:Nat) (x:AV):Option Nat → Option AV | some k => idxX size x k | none => none
theorem idxK_some {size:Nat} {x:AV} {k:Nat}:idxK size x (some k) = idxX size x k:=(rfl)
theorem runX_idxS {size:Nat} {x i:XO}:runX call C mu ro (⟨d,.idxS size x i,none⟩ :: l) fr st = (idxK size (x.val fr) (natOf (i.val fr))).bind fun v => runX call C mu ro l (fr.put d v) st :=
 ov_run (by simp only [opX,idxK]; cases natOf (i.val fr) <;> rfl) rfl
theorem runX_lenS {x:XO}:runX call C mu ro (⟨d,.lenS x,none⟩ :: l) fr st = (lenX (x.val fr)).bind fun v => runX call C mu ro l (fr.put d v) st:=ov_run rfl rfl
def exV (i:Nat):AV → Option AV | .tuple vs => vs[i]? | _ => none
theorem exV_tuple {i:Nat} {vs:List AV}:exV i (.tuple vs) = vs[i]?:=(rfl)
theorem runX_extract {x:XO} {i:Nat}:runX call C mu ro (⟨d,.extract x i,none⟩ :: l) fr st = (exV i (x.val fr)).bind fun v => runX call C mu ro l (fr.put d v) st :=
 ov_run (by simp only [opX,exV]; cases x.val fr <;> rfl) rfl
theorem runX_mkFunc {f:FuncId} {a b:List XO}:runX call C mu ro (⟨d,.mkFunc f a b,none⟩ :: l) fr st = runX call C mu ro l (fr.put d (.func (.func f) (a.map (XO.val fr)) (b.map (XO.val fr)))) st:=(rfl)
def stK (k:St → Option Out):Option St → Option Out | some st => k st | none => none
theorem stK_some {k:St → Option Out}:stK k (some st) = k st:=(rfl)
def stoV (st:St) (new:List AV):AV → Option St | .ptr p off => sto st p off new | _ => none
theorem stoV_ptr {new:List AV} {p off:Nat}:stoV st new (.ptr p off) = sto st p off new:=(rfl)
theorem runX_store {size:Nat} {a x:XO} (hs:(x.val fr).cells.length = size):runX call C mu ro (⟨d,.store size a x,none⟩ :: l) fr st = stK (runX call C mu ro l (fr.put d undefA)) (stoV st (x.val fr).cells (a.val fr)):=by
 simp only [runX,guardA,Option.bind_some,if_true,runOpX,opX,stoV]
 generalize a.val fr = av
 cases av with
 | ptr p off =>
  simp only [if_pos hs]
  cases sto st p off (x.val fr).cells <;> rfl
 | _ => rfl
theorem runX_buildS {e:TypeId} {size len:Nat} {ps:List (Nat × XO)} (h1:(ps.length = len) = True) (h2:(len * size ≤ 1048576) = True) :
  runX call C mu ro (⟨d,.buildS false e size len ps,none⟩ :: l) fr st = (elemsA size 0 (partsX fr ps)).bind fun es => runX call C mu ro l (fr.put d (.slice .exact es)) st:=by
 have h3:=of_eq_true h1
 have h4:=of_eq_true h2
 have:(partsX fr ps).length = len:=by simpa [partsX] using h3
 simp only [runX,guardA,Option.bind_some,if_true,runOpX,opX,this,h4,and_self,Bool.false_eq_true,if_false]
 cases elemsA size 0 (partsX fr ps) <;> rfl
theorem runX_app {mu2:Bool} {e:TypeId} {ei:TI} {s x:XO}:runX call C mu ro (⟨d,.app mu2 e ei s x,none⟩ :: l) fr st = ((elemsOf st ei (x.val fr)).bind (appendA mu2 st e ei (s.val fr))).bind fun v => runX call C mu ro l (fr.put d v.1) v.2:=ovs_run rfl rfl
def callK (k:Fr → St → Option Out) (d:Option Tmp) (fr:Fr):Option (CR × St × Option AV) → Option Out
 | some (.ret v,st,_) => k (fr.put d v) st
 | some (.pan v,st,_) => some (.pan v,fr,st)
 | none => none
def callD (call:CallF) (args:List AV) (st:St):AV → Option (CR × St × Option AV)
 | .func (.func g) a b => call (.fn g) (a ++ args ++ b) .normal st
 | .func (.yield l) [] [] => call (.yield l) args .normal st
 | _ => none
theorem callK_ret {k:Fr → St → Option Out} {v:AV} {p:Option AV}:callK k d fr (some (.ret v,st,p)) = k (fr.put d v) st:=(rfl)
theorem callK_pan {k:Fr → St → Option Out} {v:AV} {p:Option AV}:callK k d fr (some (.pan v,st,p)) = some (.pan v,fr,st):=(rfl)
theorem callD_fn {args a b:List AV} {g:FuncId}:callD call args st (.func (.func g) a b) = call (.fn g) (a ++ args ++ b) .normal st:=(rfl)
theorem callD_yield {args:List AV} {q:Nat}:callD call args st (.func (.yield q) [] []) = call (.yield q) args .normal st:=(rfl)
theorem runX_call {f:XO} {xs:List XO}:runX call C mu ro (⟨d,.call f xs,none⟩ :: l) fr st = callK (runX call C mu ro l) d fr (callD call (xs.map (XO.val fr)) st (f.val fr)):=by
 simp only [runX,guardA,Option.bind_some,if_true,runOpX,opX,callX,calleeX,callK,callD]
 generalize f.val fr = fv
 cases fv with
 | func g a b =>
  cases g with
  | func g =>
   simp only
   cases call (.fn g) (a ++ xs.map (XO.val fr) ++ b) .normal st with
   | none => rfl
   | some r => obtain ⟨r1,r2,r3⟩:=r; cases r1 <;> rfl
  | yield q =>
   cases a with
   | nil =>
    cases b with
    | nil =>
     simp only
     cases call (.yield q) (xs.map (XO.val fr)) .normal st with
     | none => rfl
     | some r => obtain ⟨r1,r2,r3⟩:=r; cases r1 <;> rfl
    | cons _ _ => rfl
   | cons _ _ => rfl
  | _ => rfl
 | _ => rfl
theorem mapv_nil:([]:List XO).map (XO.val fr) = []:=(rfl)
theorem mapv_cons {x:XO} {xs:List XO}:(x :: xs).map (XO.val fr) = x.val fr :: xs.map (XO.val fr):=(rfl)
theorem app_nil {α:Type} (l:List α):l ++ [] = l:=List.append_nil l
theorem nil_app {α:Type} (l:List α):[] ++ l = l:=(rfl)
theorem cons_app {α:Type} (x:α) (l r:List α):(x :: l) ++ r = x :: (l ++ r):=(rfl)
theorem execX_seq {a b:XC}:execX call C mu n self ro' (.seq a b) fr st = (execX call C mu n self ro' a fr st).bind (seqK (execX call C mu n self ro' b)):=by
 simp only [execX]
 cases execX call C mu n self ro' a fr st with
 | none => rfl
 | some o => obtain ⟨e,f,s⟩:=o; cases e <;> rfl
theorem execX_block {id:Nat} {b:XC}:execX call C mu n self ro' (.block id b) fr st = (execX call C mu n self ro' b fr st).bind (blockK id):=by
 simp only [execX]
 cases execX call C mu n self ro' b fr st with
 | none => rfl
 | some o => obtain ⟨e,f,s⟩:=o; cases e <;> rfl
end
section
variable {fr:Fr} {C:Ctx}
theorem argTmps_at (args:List AV) (i:Nat):argTmps args i = args.getD i undefA:=(rfl)
theorem getD_0 {α:Type} (x:α) (l:List α) (d:α):(x :: l).getD 0 d = x:=(rfl)
theorem getD_1 {α:Type} (x y:α) (l:List α) (d:α):(x :: y :: l).getD 1 d = y:=(rfl)
theorem getD_2 {α:Type} (x y z:α) (l:List α) (d:α):(x :: y :: z :: l).getD 2 d = z:=(rfl)
theorem getD_3 {α:Type} (x y z u:α) (l:List α) (d:α):(x :: y :: z :: u :: l).getD 3 d = u:=(rfl)
theorem cells_agg {cs:List AV}:(AV.agg cs).cells = cs:=(rfl)
theorem cells_int {k:IntKind} {n:Int}:(AV.int k n).cells = [.int k n]:=(rfl)
theorem cells_bool {b:Bool}:(AV.bool b).cells = [.bool b]:=(rfl)
theorem cells_str {s:List Nat}:(AV.str s).cells = [.str s]:=(rfl)
theorem cells_slice {k:SK} {es:List AV}:(AV.slice k es).cells = [.slice k es]:=(rfl)
theorem any_agg {cs:List AV}:(AV.agg cs).isAny = false:=(rfl)
theorem any_int {k:IntKind} {n:Int}:(AV.int k n).isAny = false:=(rfl)
theorem any_bool {b:Bool}:(AV.bool b).isAny = false:=(rfl)
theorem any_str {s:List Nat}:(AV.str s).isAny = false:=(rfl)
theorem any_slice {k:SK} {es:List AV}:(AV.slice k es).isAny = false:=(rfl)
theorem any_ptr {l o:Nat}:(AV.ptr l o).isAny = false:=(rfl)
theorem addrX_ptr {off l o:Nat}:addrX off (.ptr l o) = some (.ptr l (o + off)):=(rfl)
theorem addrX_cptr {off:Nat} {cs:List AV}:addrX off (.cptr cs) = some (.cptr (cs.drop off)):=(rfl)
def ldO (agg:Bool) (size off:Nat):AO → Option AV
 | .mem _ cells _ _ => partX agg size (cells.drop off)
 | _ => none
theorem ldX_ptr {st:St} {agg:Bool} {size l off:Nat}:ldX st agg size (.ptr l off) = ldO agg size off (st.heap l):=by
 simp only [ldX,ldO]
 cases st.heap l <;> rfl
theorem ldO_mem {agg:Bool} {size off:Nat} {e:TypeId} {cells:List AV} {full:Bool} {fz:Nat}:ldO agg size off (.mem e cells full fz) = partX agg size (cells.drop off):=(rfl)
def stO (st:St) (l off:Nat) (new:List AV):AO → Option St
 | .mem e cells full fz => if off + new.length ≤ cells.length ∧ fz ≤ off ∧ new.all AV.isCell = true then some (st.set l (.mem e (splice off new cells) full fz)) else none
 | _ => none
theorem sto_cons {st:St} {l off:Nat} {x:AV} {xs:List AV}:sto st l off (x :: xs) = stO st l off (x :: xs) (st.heap l):=by
 simp only [sto,stO]
 cases st.heap l <;> rfl
theorem stO_mem {st:St} {l off:Nat} {new:List AV} {e:TypeId} {cells:List AV} {full:Bool} {fz:Nat} (h:off + new.length ≤ cells.length) (h2:fz ≤ off) (h3:new.all AV.isCell = true) :
  stO st l off new (.mem e cells full fz) = some (st.set l (.mem e (splice off new cells) full fz)):=by simp only [stO,if_pos (And.intro h (And.intro h2 h3))]
theorem ldX_cptr {st:St} {agg:Bool} {size:Nat} {cells:List AV}:ldX st agg size (.cptr cells) = partX agg size cells:=(rfl)
theorem partX_cell {size:Nat} {x:AV} {cs:List AV}:partX false size (x :: cs) = some x:=(rfl)
theorem partX_agg {size:Nat} {cs:List AV} (h:size ≤ cs.length):partX true size cs = some (.agg (cs.take size)):=by
 simp only [partX,if_true]; rw [if_pos]; simp [h]
theorem binIX_int {op:BinOp} {t:TypeId} {xo yo:Operand} {k:IntKind} {a b:Int} (h:op ≠ .shl) (h2:op ≠ .shr):binIX C op t xo yo (.int k a) (.int k b) = intOp op k a b:=by
 cases op <;> first | exact absurd rfl h | exact absurd rfl h2 | simp [binIX]
theorem binSX_str {op:BinOp} {t:TypeId} {xo yo:Operand} {a b:List Nat}:binSX C op t xo yo (.str a) (.str b) = strOp op a b:=(rfl)
theorem i_add {k:IntKind} {x y:Int}:intOp .add k x y = some (.int k (k.wrap (x + y))):=(rfl)
theorem i_sub {k:IntKind} {x y:Int}:intOp .sub k x y = some (.int k (k.wrap (x - y))):=(rfl)
theorem i_mul {k:IntKind} {x y:Int}:intOp .mul k x y = some (.int k (k.wrap (x * y))):=(rfl)
theorem i_eql {k:IntKind} {x y:Int}:intOp .eql k x y = some (.bool (x == y)):=(rfl)
theorem i_neq {k:IntKind} {x y:Int}:intOp .neq k x y = some (.bool (x != y)):=(rfl)
theorem i_lss {k:IntKind} {x y:Int}:intOp .lss k x y = some (.bool (decide (x < y))):=(rfl)
theorem i_leq {k:IntKind} {x y:Int}:intOp .leq k x y = some (.bool (decide (x ≤ y))):=(rfl)
theorem i_gtr {k:IntKind} {x y:Int}:intOp .gtr k x y = some (.bool (decide (x > y))):=(rfl)
theorem i_geq {k:IntKind} {x y:Int}:intOp .geq k x y = some (.bool (decide (x ≥ y))):=(rfl)
theorem s_eql {x y:List Nat}:strOp .eql x y = some (.bool (x == y)):=(rfl)
theorem s_neq {x y:List Nat}:strOp .neq x y = some (.bool (!(x == y))):=(rfl)
theorem lenX_slice {k:SK} {es:List AV}:lenX (.slice k es) = some (.int .i64 (es.length:Int)):=(rfl)
theorem lenX_row {l o n:Nat} {m:Option Nat}:lenX (.row l o n m) = some (.int .i64 (n:Int)):=(rfl)
theorem un_not {b:Bool}:unA .not (.bool b) = some (.bool (!b)):=(rfl)
theorem natOf_cast {k:IntKind} {n:Nat}:natOf (.int k (n:Int)) = some n:=(rfl)
def idxO (size:Nat):Option AV → Option AV
 | some v => if v.cells.length = size then some (.cptr v.cells) else none
 | none => none
theorem idxX_slice {size:Nat} {k:SK} {es:List AV} {i:Nat}:idxX size (.slice k es) i = idxO size es[i]?:=by
 simp only [idxX,idxO]
 cases es[i]? <;> rfl
theorem idxO_some {size:Nat} {v:AV} (h:v.cells.length = size):idxO size (some v) = some (.cptr v.cells):=by simp only [idxO,if_pos h]
theorem partsX_cons {i:Nat} {x:XO} {l:List (Nat × XO)}:partsX fr ((i,x) :: l) = (i,x.val fr) :: partsX fr l:=(rfl)
theorem partsX_nil:partsX fr [] = []:=(rfl)
theorem endOf_ret:endOf .ret = some none:=(rfl)
theorem endOf_norm:endOf .norm = some none:=(rfl)
theorem finish_by {call:CallF} {f:FuncId} {fi:FI} {st0 st1:St} {e:EX} {t:Nat → AV} {m:Nat} {vs:List AV} {v:AV} {st3:St} (he:endOf e = some none) (hr:resultsA C st1 t fi.results = some vs)
  (hv:(if C.frz f then (freezeR C st1 (packA vs)).map (fun x => (untok x.1,x.2)) else some (packA vs,st1)) = some (v,st3)) :
  finishFn call C f fi .normal st0 e ⟨t,m,[],none⟩ st1 = some (.ret v,leaveSt st0 [v] st3,none):=by
 simp only [finishFn,he,runDefs,hr,hv,Option.toList]
end
theorem bindS {α β:Type} (v:α) (f:α → Option β):(some v).bind f = f v:=(rfl)
theorem drop0 {α:Type} (l:List α):l.drop 0 = l:=(rfl)
theorem drop1 {α:Type} (x:α) (l:List α):(x :: l).drop 1 = l:=(rfl)
theorem drop2 {α:Type} (x y:α) (l:List α):(x :: y :: l).drop 2 = l:=(rfl)
theorem drop3 {α:Type} (x y z:α) (l:List α):(x :: y :: z :: l).drop 3 = l:=(rfl)
theorem drop4 {α:Type} (x y z u:α) (l:List α):(x :: y :: z :: u :: l).drop 4 = l:=(rfl)
theorem upd_hit {α:Type} {f:Nat → α} {k:Nat} {v:α}:upd f k v k = v:=if_pos rfl
theorem upd_miss {α:Type} {f:Nat → α} {k:Nat} {v:α} {m:Nat} (h:(m = k) = False):upd f k v m = f m:=if_neg (by rw [h]; exact id)
theorem zadd (n:Nat):0 + n = n:=Nat.zero_add n
theorem iteT {α:Type} {a b:α}:(if true = true then a else b) = a:=(rfl)
theorem iteF {α:Type} {a b:α}:(if false = true then a else b) = b:=(rfl)
theorem notT:(!true) = false:=(rfl)
theorem notF:(!false) = true:=(rfl)
theorem leave_log {st0:St} {vs:List AV} {st:St} (hl:∀ l ∈ st.log,st0.next ≤ l) (hv:belowA.belowL st0.next vs = true):leaveSt st0 vs st = st0:=by
 have:(st.log.all fun l => decide (st0.next ≤ l)) = true:=List.all_eq_true.2 fun l h => decide_eq_true (hl l h)
 simp only [leaveSt,this,hv,Bool.and_self,if_true]
theorem belowL_one {n:Nat} {v:AV} (h:belowA n v = true):belowA.belowL n [v] = true:=by simp only [belowA.belowL,h,Bool.and_self]
theorem bl_int {n:Nat} {k:IntKind} {i:Int}:belowA n (.int k i) = true:=(rfl)
theorem bl_tuple {n:Nat} {xs:List AV}:belowA n (.tuple xs) = belowA.belowL n xs:=by simp only [belowA]
theorem bl_agg {n:Nat} {xs:List AV}:belowA n (.agg xs) = belowA.belowL n xs:=by simp only [belowA]
theorem bL_nil {n:Nat}:belowA.belowL n [] = true:=(rfl)
theorem bL_cons {n:Nat} {x:AV} {xs:List AV}:belowA.belowL n (x :: xs) = (belowA n x && belowA.belowL n xs):=(rfl)
theorem resA_nil {C:Ctx} {st:St} {t:Nat → AV}:resultsA C st t [] = some []:=(rfl)
theorem resA_tmp {C:Ctx} {st:St} {t:Nat → AV} {k:Nat} {r:List ResultVar}:resultsA C st t (.tmp k :: r) = (resultsA C st t r).map (t k :: ·):=(rfl)
theorem elemsA_nil {size j:Nat}:elemsA size j [] = some []:=(rfl)
theorem elemsA_cons {size j:Nat} {v:AV} {r:List (Nat × AV)} (h1:v.isAny = false) (h2:(v.cells.length = size) = True):elemsA size j ((j,v) :: r) = (elemsA size (j + 1) r).bind fun l => some (v :: l):=by
 have h2:=of_eq_true h2
 rw [elemsA,if_pos ⟨rfl,h1,h2⟩]
 cases elemsA size (j + 1) r <;> rfl
def fillK (pl:Nat → Option (Nat × Nat)) (cells:List AV) (v:AV) (rest:List (Nat × AV)):Option (Nat × Nat) → Option (List AV)
 | some (off,size) => if v.isAny = false ∧ v.cells.length = size ∧ off + v.cells.length ≤ cells.length then fillA pl (splice off v.cells cells) rest else none
 | none => none
theorem fillA_nil {pl:Nat → Option (Nat × Nat)} {cells:List AV}:fillA pl cells [] = some cells:=(rfl)
theorem fillA_cons {pl:Nat → Option (Nat × Nat)} {cells:List AV} {i:Nat} {v:AV} {rest:List (Nat × AV)}:fillA pl cells ((i,v) :: rest) = fillK pl cells v rest (pl i):=by
 rw [fillA]
 cases pl i <;> rfl
theorem fillK_some {pl:Nat → Option (Nat × Nat)} {cells:List AV} {v:AV} {rest:List (Nat × AV)} {off size:Nat} (h1:v.isAny = false) (h2:(v.cells.length = size) = True) (h3:(off + v.cells.length ≤ cells.length) = True) :
  fillK pl cells v rest (some (off,size)) = fillA pl (splice off v.cells cells) rest:=by
 rw [fillK,if_pos ⟨h1,of_eq_true h2,of_eq_true h3⟩]
theorem le0 {α:Type} {x:α} {l:List α}:(x :: l)[0]? = some x:=(rfl)
theorem le1 {α:Type} {x y:α} {l:List α}:(x :: y :: l)[1]? = some y:=(rfl)
theorem le2 {α:Type} {x y z:α} {l:List α}:(x :: y :: z :: l)[2]? = some z:=(rfl)
theorem le3 {α:Type} {x y z u:α} {l:List α}:(x :: y :: z :: u :: l)[3]? = some u:=(rfl)
theorem splice0 {x a:AV} {l:List AV}:splice 0 [x] (a :: l) = x :: l:=(rfl)
theorem splice1 {x a b:AV} {l:List AV}:splice 1 [x] (a :: b :: l) = a :: x :: l:=(rfl)
theorem splice2 {x a b c:AV} {l:List AV}:splice 2 [x] (a :: b :: c :: l) = a :: b :: x :: l:=(rfl)
theorem splice3 {x a b c d:AV} {l:List AV}:splice 3 [x] (a :: b :: c :: d :: l) = a :: b :: c :: x :: l:=(rfl)
theorem spliceA {new cells:List AV} (h:(new.length = cells.length) = True):splice 0 new cells = new:=by
 have h:=of_eq_true h
 simp [splice,h]
theorem len_nil {α:Type}:([]:List α).length = 0:=(rfl)
theorem len_cons {α:Type} {x:α} {l:List α}:(x :: l).length = l.length + 1:=(rfl)
theorem all_nil {p:AV → Bool}:([]:List AV).all p = true:=(rfl)
theorem all_cons {p:AV → Bool} {x:AV} {l:List AV}:(x :: l).all p = (p x && l.all p):=(rfl)
theorem ic_int {k:IntKind} {n:Int}:AV.isCell (.int k n) = true:=(rfl)
theorem ic_bool {b:Bool}:AV.isCell (.bool b) = true:=(rfl)
theorem ic_str {s:List Nat}:AV.isCell (.str s) = true:=(rfl)
theorem ic_slice {k:SK} {es:List AV}:AV.isCell (.slice k es) = true:=(rfl)
theorem andT {b:Bool}:(true && b) = b:=(rfl)
theorem wrap64 {n:Int} (h1:-9223372036854775808 ≤ n) (h2:n ≤ 9223372036854775807):IntKind.i64.wrap n = n:=by
 have e1:(2:Int) ^ IntKind.i64.bits = 18446744073709551616:=rfl
 have e2:(2:Int) ^ (IntKind.i64.bits - 1) = 9223372036854775808:=rfl
 have e3:IntKind.i64.signed = true:=rfl
 simp only [IntKind.wrap,e1,e2,e3,Bool.true_and,decide_eq_true_eq]
 split <;> omega
end Go.AE

namespace Go.AE
open Go
mutual
theorem untok_clean:∀ (v:AV),belowA 0 v = true → untok v = v
 | .any,_ => rfl
 | .bool _,_ => rfl
 | .int _ _,_ => rfl
 | .str _,_ => rfl
 | .nilp,_ => rfl
 | .ptr _ _,h => rfl
 | .cptr _,_ => rfl
 | .slice k es,h => by
  have hk:k.forget = k:=by
   cases k with
   | tok t s => simp [belowA] at h
   | _ => rfl
  have he:belowA.belowL 0 es = true:=by
   cases k with
   | tok t s => simp [belowA] at h
   | _ => simpa [belowA] using h
  rw [untok,hk,untokL_clean es he]
 | .row _ _ _ _,_ => rfl
 | .nilmap,_ => rfl
 | .map _,_ => rfl
 | .func _ _ _,_ => rfl
 | .nilfn,_ => rfl
 | .iface t v,h => by rw [belowA] at h; rw [untok,untok_clean v h]
 | .nilif,_ => rfl
 | .agg xs,h => by rw [belowA] at h; rw [untok,untokL_clean xs h]
 | .tuple xs,h => by rw [belowA] at h; rw [untok,untokL_clean xs h]
theorem untokL_clean:∀ (xs:List AV),belowA.belowL 0 xs = true → untok.untokL xs = xs
 | [],_ => rfl
 | x :: xs,h => by
  rw [belowA.belowL,Bool.and_eq_true] at h
  rw [untok.untokL,untok_clean x h.1,untokL_clean xs h.2]
end
mutual
theorem below_mono {n m:Nat} (hnm:n ≤ m):∀ (v:AV),belowA n v = true → belowA m v = true
 | .any,_ => by simp [belowA]
 | .bool _,_ => by simp [belowA]
 | .int _ _,_ => by simp [belowA]
 | .str _,_ => by simp [belowA]
 | .nilp,_ => by simp [belowA]
 | .ptr _ _,h => by simp [belowA] at h ⊢; omega
 | .cptr xs,h => by rw [belowA] at h ⊢; exact belowL_mono hnm xs h
 | .slice k es,h => by
  cases k with
  | tok t s => simp only [belowA,Bool.and_eq_true,decide_eq_true_eq] at h ⊢; exact ⟨by omega,belowL_mono hnm es h.2⟩
  | _ => simp only [belowA] at h ⊢; exact belowL_mono hnm es h
 | .row _ _ _ _,h => by simp [belowA] at h ⊢; omega
 | .nilmap,_ => by simp [belowA]
 | .map _,h => by simp [belowA] at h ⊢; omega
 | .func fn a b,h => by
  cases fn with
  | yield l => simp [belowA] at h ⊢; omega
  | _ => simp only [belowA,Bool.and_eq_true] at h ⊢; exact ⟨belowL_mono hnm a h.1,belowL_mono hnm b h.2⟩
 | .nilfn,_ => by simp [belowA]
 | .iface t v,h => by rw [belowA] at h ⊢; exact below_mono hnm v h
 | .nilif,_ => by simp [belowA]
 | .agg xs,h => by rw [belowA] at h ⊢; exact belowL_mono hnm xs h
 | .tuple xs,h => by rw [belowA] at h ⊢; exact belowL_mono hnm xs h
theorem belowL_mono {n m:Nat} (hnm:n ≤ m):∀ (xs:List AV),belowA.belowL n xs = true → belowA.belowL m xs = true
 | [],_ => rfl
 | x :: xs,h => by
  rw [belowA.belowL,Bool.and_eq_true] at h ⊢
  exact ⟨below_mono hnm x h.1,belowL_mono hnm xs h.2⟩
end
def CleanV (v:AV):Prop:=belowA 0 v = true
theorem CleanV.below {v:AV} (h:CleanV v) (n:Nat):belowA n v = true:=below_mono (Nat.zero_le n) v h
theorem CleanV.untok {v:AV} (h:CleanV v):AE.untok v = v:=untok_clean v h
section
variable {C:Ctx} {st st1:St} {t:Nat → AV}
theorem freezeVs_noRow:∀ (vs:List AV) (st:St),(∀ v ∈ vs,∀ a b c d,v ≠ .row a b c d) → freezeVs C st vs = some (vs,st)
 | [],st,_ => rfl
 | v :: vs,st,h => by
  have h1:freezeV C st v = some (v,st):=by
   cases v with
   | row a b c d => exact absurd rfl (h _ (by simp) a b c d)
   | _ => rfl
  simp only [freezeVs,h1,freezeVs_noRow vs st fun v hv => h v (by simp [hv])]
theorem freezeR_clean {v:AV} (h:CleanV v):freezeR C st v = some (v,st):=by
 have nr:∀ {n:Nat} (xs:List AV),n = 0 → belowA.belowL n xs = true → ∀ v ∈ xs,∀ a b c d,v ≠ .row a b c d:=fun xs hn hx v hv a b c d e => by
  have:=belowL_mem hx v hv
  subst e hn
  simp [belowA] at this
 unfold CleanV at h
 cases v with
 | tuple xs => rw [belowA] at h; simp only [freezeR,freezeVs_noRow xs st (nr xs rfl h),Option.map_some]
 | agg xs => rw [belowA] at h; simp only [freezeR,freezeVs_noRow xs st (nr xs rfl h),Option.map_some]
 | row a b c d => simp [belowA] at h
 | _ => rfl
end
theorem sto_pos {st:St} {l off:Nat} {new:List AV} (h:(0 < new.length) = True):sto st l off new = stO st l off new (st.heap l):=by
 have h:=of_eq_true h
 cases new with
 | nil => simp at h
 | cons x xs => exact sto_cons
theorem natOf_0 {k:IntKind}:natOf (.int k 0) = some 0:=(rfl)
theorem natOf_1 {k:IntKind}:natOf (.int k 1) = some 1:=(rfl)
theorem natOf_2 {k:IntKind}:natOf (.int k 2) = some 2:=(rfl)
theorem natOf_3 {k:IntKind}:natOf (.int k 3) = some 3:=(rfl)
end Go.AE

namespace Go.AE
open Go
def Tri (C:Ctx) (self:FuncId) (ro:Option Nat) (c:Code) (fr:Fr) (st:St) (Q:Out → Prop):Prop :=
 ∀ (b:Frame) (K:FrameMode → List Frame) (k:List Item) (G:Gh) (w:World) (u:FrameMode) (a:Act),b.fn = self → CtOk b K → Sit C G st w b fr a u → RoRel G b ro →
  ∃ out,Q out ∧ Goes C b K k G st w (lone (fa b a (.code c :: k)) (K u) w) out
section
variable {C:Ctx} {self:FuncId} {ro:Option Nat} {fr:Fr} {st:St} {Q R:Out → Prop}
theorem Tri.mono {c:Code} (h:Tri C self ro c fr st R) (k:∀ o,R o → Q o):Tri C self ro c fr st Q:=fun b K k' G w u a h1 h2 h3 h4 => by
 obtain ⟨o,h5,h6⟩:=h b K k' G w u a h1 h2 h3 h4
 exact ⟨o,k o h5,h6⟩
end
end Go.AE

namespace Go.AE
open Go
def TriX (C:Ctx) (self:FuncId) (ro:Option Nat) (x:XC) (fr:Fr) (st:St) (Q:Out → Prop):Prop:=∀ c,compC C (C.mu self) (resolveC c) = x → Tri C self ro c fr st Q
section
variable {C:Ctx} {self:FuncId} {ro:Option Nat} {fr:Fr} {st:St} {Q R:Out → Prop}
theorem compOp_gen {mu:Bool} {o o':Oper} (h:compOp C mu o = .gen o'):o' = o:=by
 unfold compOp compCall at h
 repeat' split at h
 all_goals first
  | (injection h with h; exact h.symm)
  | (exfalso; injection h)
  | cases h
theorem TriX.mono {x:XC} (h:TriX C self ro x fr st R) (k:∀ o,R o → Q o):TriX C self ro x fr st Q:=fun c hc => (h c hc).mono k
end
end Go.AE

namespace Go.AE
open Go
section
variable {C:Ctx}
theorem CleanV.vr {G G':Gh} {w:World} {x:AV} {v:Value} (h:CleanV x) (hK:∀ b o,G.K b o → G'.K b o) (hv:VR G w x v):VR G' w x v :=
 VR.belowKeep (n:=0) (fun l L hl _ => absurd hl (Nat.not_lt_zero _)) hK hv h
theorem rel_nothing (hg:∀ g cs,C.glob g = some cs → CleanV (.cptr cs)) {G:Gh} {st:St} {w:World} (hr:Rel C G st w):Rel C ⟨fun _ => none,G.K,G.base⟩ st00 w where
 obj:=fun l L h => by cases h
 sep:=fun l1 l2 L1 L2 h => by cases h
 kold:=hr.kold
 glob:=fun g cs h => ⟨(hg g cs h).vr (G:=G) (G':=⟨fun _ => none,G.K,G.base⟩) (fun _ _ h => h) (hr.glob g cs h).vr,(hr.glob g cs h).K,(hr.glob g cs h).fin⟩
 low:=hr.low
theorem vrs_clean {G G':Gh} {w:World} (hK:∀ b o,G.K b o → G'.K b o):∀ {xs:List AV} {vs:List Value},(∀ x ∈ xs,CleanV x) → VRs G w xs vs → VRs G' w xs vs
 | [],[],_,_ => trivial
 | x :: xs,v :: vs,h,k => ⟨(h x (by simp)).vr hK k.1,vrs_clean hK (fun y hy => h y (by simp [hy])) k.2⟩
theorem callOk_eval (hC:CtxOk C) (hX:XOk C) (hg:∀ g cs,C.glob g = some cs → CleanV (.cptr cs)) {f:FuncId} {args:List AV} {v:AV} {st':St} {p:Option AV} (h:callW C (.fn f) args .normal st00 = some (.ret v,st',p)) (hargs:∀ a ∈ args,CleanV a) (hcl:CleanV v) (st:St) :
  CallOk C (.fn f) args .normal st (.ret v,st,none):=by
 intro G w vals hr hv
 have hok:=callW_ok hC hX _ _ _ _ _ h ⟨fun _ => none,G.K,G.base⟩ w vals (rel_nothing hg hr) (vrs_clean (G:=G) (G':=⟨fun _ => none,G.K,G.base⟩) (fun _ _ h => h) hargs hv)
 have conv:∀ (e':Ending) w',(∃ G' ls,Ok C ⟨fun _ => none,G.K,G.base⟩ st00 w ls G' st' w' ∧ st'.log = ls ++ st00.log ∧ EndRel G' w' (.ret v) e') → ∃ G' ls,Ok C G st w ls G' st w' ∧ st.log = ls ++ st.log ∧ EndRel G' w' (.ret v) e':=by
  rintro e' w' ⟨G',ls,ok,_,hend⟩
  have hnt:∀ b,¬ Touches ⟨fun _ => none,G.K,G.base⟩ ls b:=fun b ⟨_,_,_,h,_⟩ => by cases h
  have hext:Ext G w ⟨G.loc,G'.K,G.base⟩ w':=⟨fun _ _ h => h,ok.ext.K,ok.ext.cell⟩
  have hblk:∀ b,b < w.heap.size → w'.heap[b]? = w.heap[b]?:=fun b hb => ok.frame b hb (hnt b)
  have hKold:∀ b,b < w.heap.size → ∀ o,G'.K b o → G.K b o:=fun b hb o hk => by
   rcases ok.newK b o hk with h1 | h1 | h1
   ·exact h1
   ·omega
   ·exact absurd h1 (hnt b)
  refine ⟨⟨G.loc,G'.K,G.base⟩,[],?_,rfl,?_⟩
  ·exact {
    ext:=hext
    rel:={
     obj:=fun l L h => by
      obtain ⟨a1,a2,a3,a4⟩:=hr.obj l L h
      exact ⟨a1,Nat.lt_of_lt_of_le a2 ok.size,a3,a4.keep hext (hblk _ a2) (hKold _ a2)⟩
     sep:=hr.sep
     kold:=ok.rel.kold
     glob:=fun g cs h => (hr.glob g cs h).ext hext
     low:=Nat.le_trans hr.low ok.size }
    base:=rfl
    next:=Nat.le_refl _
    size:=ok.size
    keep:=fun _ _ _ => rfl
    frame:=fun b hb _ => hblk b hb
    newloc:=fun l L h1 h2 => by rw [show Gh.loc ⟨G.loc,G'.K,G.base⟩ l = G.loc l from rfl,h1] at h2; cases h2
    newK:=fun b o h => by
     rcases ok.newK b o h with h1 | h1 | h1
     ·exact .inl h1
     ·exact .inr (.inl h1)
     ·exact absurd h1 (hnt b)
    tape:=ok.tape
    os:=ok.os
    output:=ok.output }
  ·cases e' with
   | panicked c => exact hend.elim
   | outgrown => exact hend.elim
   | returned v' => exact hcl.vr (G:=G') (fun _ _ h => h) hend
 rcases hok with ⟨fn,q1,q2,q3,q4⟩ | ⟨v1,w',q1,q2⟩
 ·exact .inl ⟨fn,q1,q2,q3,q4.mono fun e' w' hh => conv e' w' hh⟩
 ·exact .inr ⟨v1,w',q1,conv _ _ q2⟩
def Ctx.withX (C:Ctx) (X:FuncId → List AV → St → Option (AV × St)):Ctx:={ C with X:=X }
theorem objRel_withX {X:FuncId → List AV → St → Option (AV × St)} {G:Gh} {w:World} {L:Loc} {o:AO}:ObjRel (C.withX X) G w L o ↔ ObjRel C G w L o:=by cases o <;> exact Iff.rfl
theorem rel_withX {X:FuncId → List AV → St → Option (AV × St)} {G:Gh} {st:St} {w:World}:Rel (C.withX X) G st w ↔ Rel C G st w :=
 ⟨fun h => ⟨fun l L hl => by have:=h.obj l L hl; exact ⟨this.1,this.2.1,this.2.2.1,objRel_withX.1 this.2.2.2⟩,h.sep,h.kold,h.glob,h.low⟩,
 fun h => ⟨fun l L hl => by have:=h.obj l L hl; exact ⟨this.1,this.2.1,this.2.2.1,objRel_withX.2 this.2.2.2⟩,h.sep,h.kold,h.glob,h.low⟩⟩
theorem ok_withX {X:FuncId → List AV → St → Option (AV × St)} {G G':Gh} {st st':St} {w w':World} {ls:List Nat} (h:Ok C G st w ls G' st' w'):Ok (C.withX X) G st w ls G' st' w' :=
 ⟨h.ext,rel_withX.2 h.rel,h.base,h.next,h.size,h.keep,h.frame,h.newloc,h.newK,h.tape,h.os,h.output⟩
theorem callOk_withX {X:FuncId → List AV → St → Option (AV × St)} {f:FuncId} {args:List AV} {st:St} {r:CR × St × Option AV} (h:CallOk C (.fn f) args .normal st r):CallOk (C.withX X) (.fn f) args .normal st r:=by
 intro G w vals hr hv
 have conv:∀ (e':Ending) w',(∃ G' ls,Ok C G st w ls G' r.2.1 w' ∧ r.2.1.log = ls ++ st.log ∧ EndRel G' w' r.1 e') → ∃ G' ls,Ok (C.withX X) G st w ls G' r.2.1 w' ∧ r.2.1.log = ls ++ st.log ∧ EndRel G' w' r.1 e' :=
  fun e' w' ⟨G',ls,h1,h2,h3⟩ => ⟨G',ls,ok_withX h1,h2,h3⟩
 rcases h G w vals (rel_withX.1 hr) hv with ⟨fn,q1,q2,q3,q4⟩ | ⟨v1,w',q1,q2⟩
 ·exact .inl ⟨fn,q1,q2,q3,q4.mono fun e' w' hh => conv e' w' hh⟩
 ·exact .inr ⟨v1,w',q1,conv _ _ q2⟩
def Ctx.withG (C:Ctx) (g:Nat → Option (List AV)):Ctx:={ C with glob:=g }
theorem ctxOk_withG {g:Nat → Option (List AV)} (h:CtxOk C):CtxOk (C.withG g):=⟨h.und,h.info,h.agg,h.places,h.fn,h.zv,h.mixed⟩
theorem ctxOk_withX {X:FuncId → List AV → St → Option (AV × St)} (h:CtxOk C):CtxOk (C.withX X):=⟨h.und,h.info,h.agg,h.places,h.fn,h.zv,h.mixed⟩
end
end Go.AE

namespace Go.AE
open Go
inductive TV where
 | flat (x:AV)
 | ref (i o n:Nat) (lim:Option Nat)
def TV.av (b:Nat):TV → AV
 | .flat x => x
 | .ref i o n lim => .row (b + i) o n lim
end Go.AE

namespace Go.AE
open Go
theorem compC_withX {C:Ctx} {X:FuncId → List AV → St → Option (AV × St)} {mu:Bool} (c:RC):compC (C.withX X) mu c = compC C mu c:=by
 induction c with
 | ops l => rfl
 | draw ops => rfl
 | seq a b iha ihb => simp only [compC,iha,ihb]
 | cond c a b iha ihb => simp only [compC,iha,ihb]; rfl
 | block id b ih => simp only [compC,ih]
 | loop b ih => simp only [compC,ih]
 | rangeFunc f p a b n m => rfl
 | _ => rfl
theorem codeW {C:Ctx} {X:FuncId → List AV → St → Option (AV × St)} {f:FuncId} {F:FI}:codeOf (C.withX X) f F = codeOf C f F:=compC_withX _
end Go.AE

namespace Go.AE
open Go
theorem mayMeet_low {n0 b l:Nat} (h:l < n0):∀ {info:List Info} {k:Nat},mayMeet n0 b l k info = true
 | [],k => decide_eq_true h
 | x :: r,k => by rw [mayMeet,mayMeet_low h,Bool.or_true]
end Go.AE

namespace Go.AE
open Go
section
variable {call:CallF} {C:Ctx} {mu ro:Bool}
theorem runX_single {o:XR} {fr:Fr} {st:St}:runX call C mu ro [o] fr st = (guardA fr o.g).bind fun b => if b then runOpX call C mu ro o.d o.o fr st else some (.norm,fr.put o.d undefA,st):=by
 simp only [runX]
 cases guardA fr o.g with
 | none => rfl
 | some b =>
  simp only [Option.bind_some]
  cases b with
  | false => rfl
  | true =>
   simp only [if_true]
   split
   ·rename_i h; exact h.symm
   ·rfl
def drawOps (C:Ctx) (mu:Bool) (ops:Array Oper):List XR:=(ops.toList.map (resolve ops)).map (compR C mu)
end
end Go.AE
