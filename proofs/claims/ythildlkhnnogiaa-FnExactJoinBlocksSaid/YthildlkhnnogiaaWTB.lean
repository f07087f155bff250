/- Br1, Br2, WT, WTB: parts of the proof. No condition. -/
import Derived.Test.YthildlkhnnogiaaM4
import GoSem.ClaimChange
import Derived.ChangeReads
import Derived.ReadAgain
import Derived.ChangeSame
import Derived.WalkKit
import Derived.ProofKit
import Derived.OpenShut
import Derived.Test.YthildlkhnnogiaaLJoinBlocks
set_option linter.unusedVariables false
namespace Go.Am
section
def IL (P:Program) (r:TypeId->Option (List Ty)):Nat->List Field->Option (List Ty)
 |_,[]=>some []
 |off,f::fs=>match r f.type with
  |some ts=>if f.offset=off/\P.cellsOf f.type=ts.length then(IL P r (off+ts.length) fs).map (ts++·) else none
  |none=>none
def Fp (P:Program):Nat->TypeId->Option (List Ty)
 |0,_=>none
 |n+1,t=>match P.underlying t with
  |some .bool=>some [.bool]
  |some (.int k)=>some [.int k]
  |some (.slice e)=>match Fp P n e with
   |some ts=>if 0<ts.length/\P.cellsOf e=ts.length then some [.list ts] else none
   |none=>none
  |some (.struct fs)=>match IL P (Fp P n) 0 fs.toList with
   |some ts=>if P.cellsOf t=ts.length then some ts else none
   |none=>none
  |_=>none
mutual
def Ty.Wf:(t:Ty)->t.D->Prop
 |.int k,n=>LE.le (α:=Int) k.min n/\LE.le (α:=Int) n k.max
 |.bool,_=>True
 |.list ts,xs=>List.length (α:=Ty.DL ts) xs<=maxLen/\∀e:Ty.DL ts,List.Mem (α:=Ty.DL ts) e xs->Ty.ly ts e
def Ty.ly:(ts:List Ty)->Ty.DL ts->Prop
 |[],_=>True
 |[t],x=>Ty.Wf t x
 |t::u::ts,x=>Ty.Wf t x.1/\Ty.ly (u::ts) x.2
end
theorem XS (t:Ty) (ts:List Ty) (x:t.D) (y:Ty.DL ts):Ty.ly (t::ts) (Ap t ts x y)↔t.Wf x/\Ty.ly ts y:=by
 cases ts with
 |nil=>exact⟨fun h=>⟨h,trivial⟩,fun h=>h.1⟩
 |cons u us=>exact Iff.rfl
theorem aif (t:Ty):∀(ts:List Ty) (x:Ty.DL (t::ts)),∃a b,x=Ap t ts a b
 |[],x=>⟨x,(),rfl⟩
 |_::_,x=>⟨x.1,x.2,rfl⟩
theorem Xc:∀(ts us:List Ty) (x:Ty.DL ts) (y:Ty.DL us),Ty.ly ts x->Ty.ly us y->∃z:Ty.DL (ts++us),Ty.aE (ts++us) z=Ty.aE ts x++Ty.aE us y/\Ty.ly (ts++us) z
 |[],us,x,y,_,h=>⟨y,rfl,h⟩
 |t::ts,us,x,y,h1,h2=>by
  obtain⟨a,b,rfl⟩:=aif t ts x;rw[XS] at h1;obtain⟨z,e1,e2⟩:=Xc ts us b y h1.2 h2;exact⟨Ap t (ts++us) a z,by
   have h1:Ty.aE (t::(ts++us)) (Ap t (ts++us) a z)=t.er a::Ty.aE (ts++us) z:=Qm _ _ _ _;have h2:Ty.aE (t::ts) (Ap t ts a b)=t.er a::Ty.aE ts b:=Qm _ _ _ _;exact h1.trans (by rw[h2,e1];rfl),(XS _ _ _ _).2 ⟨h1.1,e2⟩⟩
theorem abv {α β:Type} {f:α->Option β}:∀{l:List α} {r:List β},l.mapM f=some r->r.length=l.length/\∀(i:Nat) (x:α),l[i]? =some x->∃y,r[i]? =some y/\f x=some y:=by
 intro l;induction l with
 |nil=>intro r h;simp at h;subst h;exact⟨rfl,by simp⟩
 |cons a l ih=>
  intro r h;rw[List.mapM_cons] at h;cases hx:f a with
  |none=>simp[hx] at h
  |some y=>
   cases D4:l.mapM f with
   |none=>simp[hx,D4] at h
   |some ys=>
    simp[hx,D4] at h;subst h;obtain⟨i1,i2⟩:=ih D4;refine⟨by simp[i1],fun i x hi=>?_⟩;cases i with
    |zero=>simp at hi;subst hi;exact⟨y,rfl,hx⟩
    |succ i=>exact i2 i x (by simpa using hi)
theorem ahW {w:World} {a:Addr} {n:Nat} {cs:List Value} (h:w.cells? 0 a n=some cs):cs.length=n/\∀(j:Nat) (c:Value),cs[j]? =some c->w.cell? (a.add j)=some c:=by
 unfold World.cells? at h;rw[if_pos (Nat.zero_le _)] at h;obtain⟨h1,h2⟩:=abv h;simp only[List.length_range] at h1;refine⟨h1,fun j c hj=>?_⟩;have cu:j<n:=by rw[<-h1];exact(List.getElem?_eq_some_iff.1 hj).1
 obtain⟨y,e1,e2⟩:=h2 j j (List.getElem?_range cu);rw[hj] at e1;injection e1 with e1;subst e1;exact e2
theorem ahV {w:World} {a:Addr} {v:Value} (h:w.cell? a=some v):a=ad a.block a.off:=by
 unfold World.cell? at h;split at h
 ·split at h
  ·cases h
  ·rename_i hs;obtain⟨b,o,s⟩:=a;cases s with
   |none=>rfl
   |some q=>simp at hs
 ·cases h
theorem W7 (a:Addr):a.add 0=a:=by unfold Addr.add;simp
section
variable {H:Type} {enc:TypeId×Value->H} {P:Program} {w:World} {sp:Nat->Bool} {held:Bool}
def tn (P:Program) (w:World) (ts:List Ty) (cs:List Value):Prop:=
 ∃(x:Ty.DL ts) (bD:List PC),bD.map PC.er=Ty.aE ts x/\bD.map PC.val=cs/\(∀pc∈bD,Good w pc)/\Ty.ly ts x
theorem tn.one {t:Ty} {x:t.D} {pc:PC} {c:Value} (h1:pc.er=t.er x) (h2:pc.val=c) (h3:Good w pc) (h4:t.Wf x):tn P w [t] [c]:=
 ⟨x,[pc],by simp only[List.map_cons,List.map_nil,h1];rfl,by simp[h2],by simpa using h3,h4⟩
theorem adQ {r:TypeId->Option (List Ty)} {q:TypeId->List Value->Option (DataW H×List MemPlace)} (hr:∀t ts cs y,r t=some ts->q t cs=some y->tn P w ts cs) (cs:List Value):
  ∀(fs:List Field) (off:Nat) (ts:List Ty) (ys:List (DataW H×List MemPlace)),IL P r off fs=some ts->fs.mapM (fun f=>q f.type ((cs.drop f.offset).take (P.cellsOf f.type)))=some ys->tn P w ts ((cs.drop off).take ts.length)
 |[],off,ts,ys,h1,h2=>by
  simp only[IL] at h1;injection h1 with h1;subst h1;exact⟨(),[],rfl,by simp,by simp,trivial⟩
 |f::fs,off,ts,ys,h1,h2=>by
  simp only[IL] at h1;split at h1
  ·rename_i ts1 e1;split at h1
   ·rename_i hc;obtain⟨c1,c2⟩:=hc;rw[Option.map_eq_some_iff] at h1;obtain⟨ts2,e2,rfl⟩:=h1;rw[List.mapM_cons] at h2;cases hq:q f.type ((cs.drop f.offset).take (P.cellsOf f.type)) with
    |none=>simp[hq] at h2
    |some y=>
     cases hqs:fs.mapM (fun f=>q f.type ((cs.drop f.offset).take (P.cellsOf f.type))) with
     |none=>simp[hq,hqs] at h2
     |some ys2=>
      obtain⟨x1,p1,a1,a2,a3,a4⟩:=hr _ _ _ _ e1 hq;obtain⟨x2,p2,b1,b2,b3,b4⟩:=adQ hr cs fs (off+ts1.length) ts2 ys2 e2 hqs;obtain⟨z,z1,z2⟩:=Xc ts1 ts2 x1 x2 a4 b4;refine⟨z,p1++p2,by rw[List.map_append,a1,b1,z1],?_,fun pc bi=>(List.mem_append.1 bi).elim (a3 pc) (b3 pc),z2⟩;rw[List.map_append,a2,b2,c1,c2,List.length_append,List.take_add,List.drop_drop]
   ·cases h1
  ·cases h1
theorem ato {gh:Nat} {t e:TypeId} {us:List Ty} {cs:List Value} {y:DataW H×List MemPlace} (ih:∀cs y,DataW.trod enc P w 0 sp held gh e cs=some y->tn P w us cs) (eS:0<us.length) (gW:P.cellsOf e=us.length)
  (hu:P.underlying t=some (.slice e)) (h:DataW.trod enc P w 0 sp held (gh+1) t cs=some y):tn P w [.list us] cs:=by
 rw[DataW.trod_step] at h;unfold DataW.trodStep at h;simp only[hu] at h;split at h<;>first|(cases h;done)|(rename_i fA;cases fA;done)|skip
 ·exact tn.one (t:=.list us) (x:=([]:List (Ty.DL us))) (pc:=.list us.length none 0 []) (by rw[PC.dV];rfl) rfl (.nil _ _ _ eS) ⟨Nat.zero_le _,fun e he=>by cases he⟩
 ·rename_i e' a len cap fA;injection fA with fA;injection fA with fA;subst fA;split at h
  ·rename_i hc;obtain⟨_,hlc,jD⟩:=hc;rw[Option.bind_eq_some_iff] at h;obtain⟨elems,he,_⟩:=h;obtain⟨g1,g2⟩:=abv he;simp only[List.length_range] at g1;have each:∀i:Fin len,∃(x:Ty.DL us) (bD:List PC),bD.map PC.er=Ty.aE us x/\(∀pc∈bD,Good w pc)/\Ty.ly us x/\∀j pc,bD[j]? =some pc->w.cell? ((a.add (i.1*us.length)).add j)=some pc.val:=by
    intro i;obtain⟨y1,_,e2⟩:=g2 i.1 i.1 (List.getElem?_range i.2);rw[Option.bind_eq_some_iff] at e2;obtain⟨XY,e3,e4⟩:=e2;rw[gW] at e3;obtain⟨c1,c2⟩:=ahW e3;obtain⟨x,bD,a1,a2,a3,a4⟩:=ih XY y1 e4;refine⟨x,bD,a1,a3,a4,fun j pc hj=>c2 j pc.val ?_⟩;rw[<-a2,List.getElem?_map,hj];rfl
   let xs:List (Ty.DL us):=List.ofFn fun i:Fin len=>Classical.choose (each i);let px:List (List PC):=List.ofFn fun i:Fin len=>Classical.choose (Classical.choose_spec (each i));have fw:∀k e,px[k]? =some e->∃i:Fin len,i.1=k/\e=Classical.choose (Classical.choose_spec (each i)):=by
    intro k e hk;rw[List.getElem?_ofFn] at hk;split at hk
    ·rename_i cu;injection hk with hk;exact⟨⟨k,cu⟩,rfl,hk.symm⟩
    ·cases hk
   have spec:=fun i:Fin len=>Classical.choose_spec (Classical.choose_spec (each i));have RZ:px.length=len:=by simp[px]
   have auK:xs.length=len:=by simp[xs]
   have RP:px.map (fun e=>e.map PC.er)=List.map (Ty.aE us) xs:=by
    apply List.ext_getElem?;intro k;simp only[List.getElem?_map,px,xs,List.getElem?_ofFn];by_cases hk:k<len
    ·simp only[hk,dif_pos,Option.map_some];rw[(spec ⟨k,hk⟩).1]
    ·simp only[hk,dif_neg,not_false_eq_true,Option.map_none]
   have vh:∀x∈xs,Ty.ly us x:=by
    intro x hx;obtain⟨i,hi⟩:=List.mem_ofFn.1 hx;subst hi;exact(spec i).2.2.1
   have bV:∀e∈px,e.length=us.length:=by
    intro e he;obtain⟨k,hk⟩:=List.getElem?_of_mem he;obtain⟨i,_,rfl⟩:=fw k e hk;have:=congrArg List.length (spec i).1;rwa[List.length_map,Ty.Dp] at this
   have fO:∀k j c,At px k j c->Good w c:=by
    rintro k j c ⟨e,he,hj⟩;obtain⟨i,_,rfl⟩:=fw k e he;exact(spec i).2.1 c (List.mem_of_getElem? hj)
   have oQ:∀k j c,At px k j c->w.cell? ((a.add (k*us.length)).add j)=some c.val:=by
    rintro k j c ⟨e,he,hj⟩;obtain⟨i,rfl,rfl⟩:=fw k e he;exact(spec i).2.2.2 j c hj
   refine tn.one (t:=.list us) (x:=xs) (pc:=.list us.length (some a) cap px) (by rw[PC.dV,RP];rfl) (by simp[PC.val,RZ]) ?_ ⟨by show xs.length<=maxLen;omega,fun x hx=>vh x hx⟩;by_cases h0:px=[]
   ·rw[h0];exact .nil _ _ _ eS
   ·obtain⟨c0,dL⟩:=Xj h0 eS bV;have h1:=oQ 0 0 c0 dL;rw[Nat.zero_mul,W7,W7] at h1;have Bb:=ahV h1;rw[Bb] at oQ⊢;refine .cons _ _ _ _ _ h0 (by omega) eS bV (fun k j c hk=>?_) fO;have:=oQ k j c hk;rwa[qz,qz] at this
  ·cases h
theorem Ws:∀(gh:Nat) (t:TypeId) (cs:List Value) (y:DataW H×List MemPlace) (n:Nat) (ts:List Ty),DataW.trod enc P w 0 sp held gh t cs=some y->Fp P n t=some ts->tn P w ts cs
 |0,t,cs,y,n,ts,h,ht=>by simp[DataW.trod] at h
 |gh+1,t,cs,y,0,ts,h,ht=>by simp[Fp] at ht
 |gh+1,t,cs,y,n+1,ts,h,ht=>by
  simp only[Fp] at ht;cases hu:P.underlying t with
  |none=>rw[hu] at ht;cases ht
  |some d=>
   rw[hu] at ht;cases d<;>simp only at ht<;>first|(cases ht;done)|skip
   case bool=>
    injection ht with ht;subst ht;rw[DataW.trod_step] at h;unfold DataW.trodStep at h;simp only[hu] at h;split at h<;>first|(cases h;done)|(rename_i fA;cases fA;done)|skip
    rename_i b fA;exact tn.one (t:=.bool) (x:=b) (pc:=.bool b) rfl rfl (.bool b) trivial
   case int k=>
    injection ht with ht;subst ht;rw[DataW.trod_step] at h;unfold DataW.trodStep at h;simp only[hu] at h;split at h<;>first|(cases h;done)|(rename_i fA;cases fA;done)|skip
    rename_i k1 k2 n2 fA;injection fA with fA;injection fA with fA;subst fA;split at h
    ·rename_i hc;obtain⟨rfl,hc⟩:=hc;simp only[Lit.wf,Bool.and_eq_true,decide_eq_true_eq] at hc;exact tn.one (t:=.int k2) (x:=n2) (pc:=.int k2 n2) rfl rfl (.int k2 n2) hc
    ·cases h
   case slice e=>
    split at ht
    ·rename_i us kP;split at ht
     ·rename_i eS;obtain⟨eS,gW⟩:=eS;injection ht with ht;subst ht;exact ato (fun cs y hy=>Ws gh e cs y n us hy kP) eS gW hu h
     ·cases ht
    ·cases ht
   case struct fs=>
    rw[DataW.trod_step] at h;unfold DataW.trodStep at h;simp only[hu] at h;split at h<;>first|(cases h;done)|(rename_i fA;cases fA;done)|skip
    rename_i hlen;split at ht
    ·rename_i us kP;split at ht
     ·rename_i gW;injection ht with ht;subst ht;rw[Option.map_eq_some_iff] at h;obtain⟨ys,h1,h2⟩:=h;have:=adQ (P:=P) (w:=w) (fun t ts cs y h3 h4=>Ws gh t cs y n ts h4 h3) cs fs.toList 0 us ys kP h1;rwa[List.drop_zero,<-gW,<-hlen,List.take_length] at this
     ·cases ht
    ·cases ht
end
end
section
open Go.ChangeShapes Go.WideShapes Go.ChangeAt Go.RowKit
def CV:(as:ak)->aY as.aX->Prop
 |[],_=>True
 |[a],x=>Ty.ly a.2 x
 |a::b::as,x=>Ty.ly a.2 x.1/\CV (b::as) x.2
theorem aie (a:K×List Ty) (as:ak) (x:Ty.DL a.2) (y:aY (ak.aX as)):Ty.ly a.2 x->CV as y->CV (a::as) (KF a.2 (ak.aX as) x y):=by
 intro h1 h2;cases as with
 |nil=>exact h1
 |cons b as=>exact⟨h1,h2⟩
def Qh (P:Program) (t:TypeId) (a:K×List Ty):Bool:=
 match Fp P 30 t with
 |some ts=>Ty.tu ts a.2&&(match P.underlying t,a.1 with
  |some (.struct _),.agg=>true
  |some (.int _),.one=>true
  |some .bool,.one=>true
  |some (.slice _),.one=>true
  |_,_=>false)
 |none=>false
def De (P:Program):List TypeId->ak->Bool
 |[],[]=>true
 |t::ts,a::as=>Qh P t a&&De P ts as
 |_,_=>false
section
variable {H:Type} {enc:TypeId×Value->H} {P:Program} {w w':World} {sp:Nat->Bool} {held:Bool}
theorem ahz {t:TypeId} {a:K×List Ty} {v:Value} {d:DataW H} {ps:List MemPlace} (hc:Qh P t a=true) (hv:Value.okWide P w .any 0 t v) (hd:DataW.Trod enc P w 0 sp held t v d ps):
  ∃x:Ty.DL a.2,Cg w (a.1,Ty.aE a.2 x) v/\Ty.ly a.2 x:=by
 obtain⟨gh,hd⟩:=hd;unfold Qh at hc;split at hc
 ·rename_i ts Bd;simp only[Bool.and_eq_true] at hc;obtain⟨h1,h2⟩:=hc;have h1:=Ty.tv h1;subst h1;obtain⟨x,bD,e1,e2,e3,e4⟩:=Ws gh t v.cells.toList _ 30 a.2 hd Bd;refine⟨x,?_,e4⟩;unfold Value.okWide at hv;have one:(∀cs,v≠ .agg cs)->a.1=.one->Cg w (a.1,Ty.aE a.2 x) v:=by
   intro hn ha;have oQ:v.cells.toList=[v]:=by cases v<;>first|rfl|(rename_i cs;exact absurd rfl (hn cs))
   rw[ha];exact⟨bD,e1,e3,by rw[e2,oQ]⟩
  split at h2
  ·rename_i fs hu ha;rw[hu] at hv;obtain⟨cs,rfl,_,_⟩:=hv;rw[ha];exact⟨bD,e1,e3,by rw[e2];rfl⟩
  ·rename_i k hu ha;refine one (fun cs e=>?_) ha;subst e;rw[hu] at hv;simp[Cell.okWide,hu,Cell.ok] at hv
  ·rename_i hu ha;refine one (fun cs e=>?_) ha;subst e;rw[hu] at hv;simp[Cell.okWide,hu,Cell.ok] at hv
  ·rename_i e hu ha;refine one (fun cs e=>?_) ha;subst e;rw[hu] at hv;simp[Cell.okWide,hu,Cell.ok] at hv
  ·cases h2
 ·cases hc
theorem Xh:∀{ts:List TypeId} {as:ak} {vs:List Value} {ds:List (DataW H)} {ps:List MemPlace},De P ts as=true->(∀(j:Nat) (t:TypeId) (v:Value),ts[j]? =some t->vs[j]? =some v->Value.okWide P w .any 0 t v)->
  DataW.TrodAll enc P w 0 sp held ts vs ds ps->∃x:aY (ak.aX as),FB w (dB as x) vs/\CV as x
 |[],[],vs,ds,ps,hc,hv,h=>by
  obtain⟨rfl,rfl,rfl⟩:=trodAll_nil h;exact⟨(),⟨rfl,by intro j d v hj;simp[dB] at hj⟩,trivial⟩
 |t::ts,a::as,vs,ds,ps,hc,hv,h=>by
  simp only[De,Bool.and_eq_true] at hc;obtain⟨v,vs1,d,ds1,p,q,rfl,rfl,rfl,h1,h2⟩:=trodAll_cons h;obtain⟨x,a1,a2⟩:=ahz hc.1 (hv 0 t v rfl rfl) h1;obtain⟨y,b1,b2⟩:=Xh hc.2 (fun j t v h3 h4=>hv (j+1) t v (by simpa using h3) (by simpa using h4)) h2;refine⟨KF a.2 (ak.aX as) x y,?_,aie a as x y a2 b2⟩;rw[Yo];refine⟨by simp[b1.1],fun j d v hj gk=>?_⟩;cases j with
  |zero=>simp at hj gk;subst hj;subst gk;exact a1
  |succ j=>exact b1.2 j d v (by simpa using hj) (by simpa using gk)
 |[],_::_,vs,ds,ps,hc,hv,h=>by simp[De] at hc
 |_::_,[],vs,ds,ps,hc,hv,h=>by simp[De] at hc
theorem agR (hw:∀b,b<w.heap.size->w'.heap[b]? =w.heap[b]?):∀{ts:List TypeId} {vs:List Value} {ds:List (DataW H)} {ps:List MemPlace},DataW.TrodAll enc P w 0 sp held ts vs ds ps->DataW.TrodAll enc P w' 0 sp held ts vs ds ps
 |[],[],[],_,h=>h
 |t::ts,v::vs,d::ds,_,⟨p,q,⟨n,h1⟩,h2,e⟩=>by
  refine⟨p,q,⟨n,DataW.trod_carry n t _ _ h1 fun pl eZ=>?_⟩,agR hw h2,e⟩;have cu:=DataW.trod_lt n t _ _ h1 pl eZ;cases pl with
  |cell b o=>
   have hb:=hw b cu;simp only[World.sameAt,World.cell?,hb]
  |map b=>exact hw b cu
 |[],[],_::_,_,h=>h.elim
 |[],_::_,_,_,h=>h.elim
 |_::_,[],_,_,h=>h.elim
 |_::_,_::_,[],_,h=>h.elim
theorem anB (h1:w'.os=w.os) (h2:w'.output=w.output) (hw:∀b,b<w.heap.size->w'.heap[b]? =w.heap[b]?) (may:MemPlace->Prop):w.keptBut w' may:=by
 have base:=World.keptBut_refl w may;refine⟨h1,h2,fun i hi=>?_⟩;rw[hw i hi];exact base.2.2 i hi
theorem arZ {f:Func} {s:ChangeSpec} {apart Q8 Rd PL:Bool} {W W':World} {args:Array Value} {v:Value} {ds gs:List (DataW H)} {tt pa pv:List MemPlace}
  (hW:DataW.Whole enc P f.params.toList s.vars apart W args.toList ds gs tt)
  (aaz:∀(b:Nat) (sp:Nat->Bool) (hd:Bool),DataW.TrodAll enc P W' b sp hd f.resultTypes.toList (v.resultList f.resultTypes.size) (s.fn H (ds++gs)).results [])
  (DE:∀sp:Nat->Bool,(∀p∈tt,sp p.block=true)->DataW.TrodAll enc P W' 0 sp true f.params.toList args.toList (s.fn H (ds++gs)).args pa)
  (aaE:∀sp:Nat->Bool,(∀p∈tt,sp p.block=true)->DataW.TrodVars enc P W' sp s.vars (s.fn H (ds++gs)).vars pv)
  (f8:tt=pa++pv) (hk:W.keptBut W' (·∈tt)) (Lm:∀a:Addr,a.block<W.heap.size->W'.frozen? a=W.frozen? a)
  (fb:∀(j:Nat) (t:TypeId) (r:Value),f.resultTypes[j]? =some t->(v.resultList f.resultTypes.size)[j]? =some r->Value.okWide P W' .any 0 t r):
  s.post enc P f apart Q8 Rd PL W args v W':=by
 have hold:∀p∈tt,(fun b=>decide (b<W.heap.size)) p.block=true:=fun p hp=>by simpa using hW.lt p hp
 have cu:=hW.lt;refine⟨ds,gs,tt,[],pa,pv,hW,aaz _ _ _,DE _ hold,aaE _ hold,World.keptBut_mono (fun p hp=>⟨hp,?_⟩) hk,fun _=>?_⟩
 ·rw[f8,List.mem_append] at hp;exact Or.inr hp
 ·obtain⟨_,_,_,_,_,hz,hn⟩:=hW;refine⟨fb,_,_,([]++pa)++pv,⟨[]++pa,pv,trodAll_append (DE _ (fun _ _=>rfl)) (aaz _ _ _),aaE _ (fun _ _=>rfl),rfl,?_,?_⟩,?_⟩
  ·intro b off hp;have bB:MemPlace.cell b off∈tt:=by rw[f8];simpa using hp
   rw[Lm ⟨b,off,none⟩ (cu _ bB)];exact hz b off bB
  ·intro ha;have:=hn ha;rw[f8] at this;simpa using this
  ·intro p hp _;rw[f8];simpa using hp
theorem asx {bt:List (K×List PC)} {b:Bool} (h:bt.map (fun p=>(p.1,p.2.map PC.er))=[(K.one,[C.bool b])]):xG bt=.bool b:=by
 match bt,h with
 |[],h=>simp at h
 |_::_::_,h=>simp at h
 |[(k,bD)],h=>
  simp only[List.map_cons,List.map_nil,List.cons.injEq,Prod.mk.injEq,and_true] at h;obtain⟨rfl,h⟩:=h;match bD,h with
  |[],h=>simp at h
  |_::_::_,h=>simp at h
  |[pc],h=>
   simp only[List.map_cons,List.map_nil,List.cons.injEq,and_true] at h;cases pc with
   |bool b=>simp[PC.er] at h;subst h;rfl
   |int k n=>simp[PC.er] at h
   |list sz a cap xs=>rw[PC.dV] at h;cases h
theorem agS:∀{ts:List TypeId} {vs:List Value} {ds:List (DataW H)} {ps:List MemPlace},DataW.TrodAll enc P w 0 sp held ts vs ds ps->ds.length=ts.length
 |[],vs,ds,ps,h=>by obtain⟨rfl,rfl,rfl⟩:=trodAll_nil h;rfl
 |t::ts,vs,ds,ps,h=>by
  obtain⟨v,vs1,d,ds1,p,q,rfl,rfl,rfl,h1,h2⟩:=trodAll_cons h;simp[agS h2]
def Z6 (P:Program):Bool:=(List.range P.types.size).all fun t=>match P.underlying t with|some (.slice e)=>decide (0<P.cellsOf e)|_=>true
theorem anT {f:FuncId} {fn:Func} {s:ChangeSpec} {sg:ak} {M:List Dv->Option (List Dv)} {tb:TypeId} (hl:laidOutB P=true) (hmr:mapsRowed P=true)
  (hz:Z6 P=true)
  (Bd:∀t∈fn.params.toList,t<P.types.size)
  (hp:De P fn.params.toList sg=true) (hr:fn.resultTypes=#[tb]) (hb:P.underlying tb=some .bool) (hs:s.vars=[])
  (Bb:∀ds:List (DataW H),ds.length=fn.params.toList.length->(s.fn H ds).results=[.lit (.bool true)]/\(s.fn H ds).args=ds/\(s.fn H ds).vars=[])
  (alD:dh P f M) (hM:∀x:aY (ak.aX sg),CV sg x->M (dB sg x)=some [(.one,[.bool true])]) {apart Q8 Rd PL:Bool}
  {W:World} {base:Nat} {args:Array Value} {ds gs:List (DataW H)} {tt:List MemPlace}
  (Be:∀(j:Nat) t v,fn.params[j]? =some t->args[j]? =some v->Value.okWide P W .any base t v) (hW:DataW.Whole enc P fn.params.toList s.vars apart W args.toList ds gs tt):
  Calls P f args W fun e W'=>∃v,e=.returned v/\s.post enc P fn apart Q8 Rd PL W args v W':=by
 have hW':=hW;obtain⟨p,q,hA,hV,rfl,Lm,fB⟩:=hW;rw[hs] at hV;obtain⟨rfl,rfl⟩:=trodVars_none hV;obtain⟨x,hx,vh⟩:=Xh hp (fun j t v h1 h2=>Value.okWide_any_base<|Be j t v (by rw[<-Array.getElem?_toList];exact h1) (by rw[<-Array.getElem?_toList];exact h2)) hA;have aak:=alD _ _ (hM x vh) W args.toList hx;have wI:args.toList.toArray=args:=by cases args;rfl
 rw[wI] at aak;refine aak.mono fun e W' ⟨bt,p1,p2,p3,p4,p5⟩=>?_;have hv:=asx p1;have jC:∀b,b<W.heap.size->W'.heap[b]? =W.heap[b]? :=fun b hb=>p5.block b hb id;have hlen:=agS hA;obtain⟨s1,s2,s3⟩:=Bb ds hlen;refine⟨_,p2,?_⟩;rw[hv];refine arZ (pa:=p) (pv:=[]) hW' (fun _ _ _=>?_) (fun sp Bb=>?_) (fun _ _=>?_) (by simp) (anB p5.os p5.output jC _) (fun a ha=>?_) ?_
 ·rw[List.append_nil,s1,hr];exact trodAll_cons_mk (shut_bool hb _) trodAll_mk0
 ·rw[List.append_nil,s2];exact DataW.TrodAll.respare (kids_rows hl hmr) (slices_full_of P hz) Bd (agR jC hA) (fun pl eZ=>Bb pl (by simpa using eZ))
 ·rw[List.append_nil,hs,s3];rfl
 ·simp only[World.frozen?,jC a.block ha]
 ·rw[hr];rw[<-hr];exact ok_one hr rfl (okWide_bool_mk hb _)
end
end
theorem zW (l:List Int) (h:Ty.ly [.list [.int .i64]] l):nF l=true:=by
 have h1:l.length<=maxLen:=h.1;exact decide_eq_true (by unfold maxLen at h1;omega)
theorem aul (l:List (List Int)) (h:Ty.ly [.list [.list [.int .i64]]] l):Fw l=true:=by
 have h1:l.length<=maxLen:=h.1;unfold Fw;rw[Bool.and_eq_true,decide_eq_true_eq,List.all_eq_true];exact⟨by unfold maxLen at h1;omega,fun e he=>zW e (h.2 e he)⟩
theorem aum (x:(List Int)×(List Int)×(List Int)) (h:Ty.ly [.list [.int .i64],.list [.int .i64],.list [.int .i64]] x):Fx x=true:=by
 obtain⟨a0,a1,a2⟩:=x;show(nF a0&&nF a1&&nF a2)=true;rw[zW a0 h.1,zW a1 h.2.1,zW a2 h.2.2];rfl
theorem auk (x:Int×(List (List Int))) (h:Ty.ly [.int .i64,.list [.list [.int .i64]]] x):IW x=true:=by
 obtain⟨a0,a1⟩:=x;show(Fw a1)=true;rw[aul a1 h.2]
theorem aui (x:(List Int)×(List Int)×(List Int)×(List Int)) (h:Ty.ly [.list [.int .i64],.list [.int .i64],.list [.int .i64],.list [.int .i64]] x):Oe x=true:=by
 obtain⟨a0,a1,a2,a3⟩:=x;show(nF a0&&nF a1&&nF a2&&nF a3)=true;rw[zW a0 h.1,zW a1 h.2.1,zW a2 h.2.2.1,zW a3 h.2.2.2];rfl
theorem auj (l:List ((List Int)×(List Int)×(List Int)×(List Int))) (h:Ty.ly [.list [.list [.int .i64],.list [.int .i64],.list [.int .i64],.list [.int .i64]]] l):Fv l=true:=by
 have h1:l.length<=maxLen:=h.1;unfold Fv;rw[Bool.and_eq_true,decide_eq_true_eq,List.all_eq_true];exact⟨by unfold maxLen at h1;omega,fun e he=>aui e (h.2 e he)⟩
end Go.Am
