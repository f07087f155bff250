/- Br1: what the form reads of an argument is typed data that lies in the world. No condition. -/
import Derived.Test.YtbgmbplglejidaaS7
import GoSem.ClaimChange
import Derived.ChangeReads
import Derived.ReadAgain
import Derived.ChangeSame
set_option linter.unusedVariables false
namespace Go.Am
def GQ (P:Program) (r:TypeId->Option (List Ty)):Nat->List Field->Option (List Ty)
 |_,[]=>some []
 |off,f::fs=>match r f.type with
  |some ts=>if f.offset=off/\P.cellsOf f.type=ts.length then(GQ P r (off+ts.length) fs).map (ts++·) else none
  |none=>none
def DJ (P:Program):Nat->TypeId->Option (List Ty)
 |0,_=>none
 |n+1,t=>match P.underlying t with
  |some .bool=>some [.bool]
  |some (.int k)=>some [.int k]
  |some (.slice e)=>match DJ P n e with
   |some ts=>if 0<ts.length/\P.cellsOf e=ts.length then some [.list ts] else none
   |none=>none
  |some (.struct fs)=>match GQ P (DJ P n) 0 fs.toList with
   |some ts=>if P.cellsOf t=ts.length then some ts else none
   |none=>none
  |_=>none
mutual
def Ty.Wf:(t:Ty)->t.D->Prop
 |.int k,n=>LE.le (α:=Int) k.min n/\LE.le (α:=Int) n k.max
 |.bool,_=>True
 |.list ts,xs=>List.length (α:=Ty.DL ts) xs<=maxLen/\∀e:Ty.DL ts,List.Mem (α:=Ty.DL ts) e xs->Ty.oH ts e
def Ty.oH:(ts:List Ty)->Ty.DL ts->Prop
 |[],_=>True
 |[t],x=>Ty.Wf t x
 |t::u::ts,x=>Ty.Wf t x.1/\Ty.oH (u::ts) x.2
end
theorem YK (t:Ty) (ts:List Ty) (x:t.D) (y:Ty.DL ts):Ty.oH (t::ts) (yG t ts x y)↔t.Wf x/\Ty.oH ts y:=by
 cases ts with
 |nil=>exact⟨fun h=>⟨h,trivial⟩,fun h=>h.1⟩
 |cons u us=>exact Iff.rfl
theorem af7 (t:Ty):∀(ts:List Ty) (x:Ty.DL (t::ts)),∃a b,x=yG t ts a b
 |[],x=>⟨x,(),rfl⟩
 |_::_,x=>⟨x.1,x.2,rfl⟩
theorem XZ:∀(ts us:List Ty) (x:Ty.DL ts) (y:Ty.DL us),Ty.oH ts x->Ty.oH us y->∃z:Ty.DL (ts++us),Ty.aI (ts++us) z=Ty.aI ts x++Ty.aI us y/\Ty.oH (ts++us) z
 |[],us,x,y,_,h=>⟨y,rfl,h⟩
 |t::ts,us,x,y,h1,h2=>by
  obtain⟨a,b,rfl⟩:=af7 t ts x
  rw[YK] at h1
  obtain⟨z,e1,e2⟩:=XZ ts us b y h1.2 h2
  exact⟨yG t (ts++us) a z,by
   have h1:Ty.aI (t::(ts++us)) (yG t (ts++us) a z)=t.er a::Ty.aI (ts++us) z:=NM _ _ _ _
   have h2:Ty.aI (t::ts) (yG t ts a b)=t.er a::Ty.aI ts b:=NM _ _ _ _
   exact h1.trans (by rw[h2,e1];rfl),(YK _ _ _ _).2 ⟨h1.1,e2⟩⟩
theorem abQ {α β:Type} {f:α->Option β}:∀{l:List α} {r:List β},l.mapM f=some r->r.length=l.length/\∀(i:Nat) (x:α),l[i]? =some x->∃y,r[i]? =some y/\f x=some y:=by
 intro l
 induction l with
 |nil=>intro r h;simp at h;subst h;exact⟨rfl,by simp⟩
 |cons a l ih=>
  intro r h
  rw[List.mapM_cons] at h
  cases hx:f a with
  |none=>simp[hx] at h
  |some y=>
   cases Qk:l.mapM f with
   |none=>simp[hx,Qk] at h
   |some ys=>
    simp[hx,Qk] at h
    subst h
    obtain⟨i1,i2⟩:=ih Qk
    refine⟨by simp[i1],fun i x hi=>?_⟩
    cases i with
    |zero=>simp at hi;subst hi;exact⟨y,rfl,hx⟩
    |succ i=>exact i2 i x (by simpa using hi)
theorem afL {w:World} {a:Addr} {n:Nat} {cs:List Value} (h:w.cells? 0 a n=some cs):cs.length=n/\∀(j:Nat) (c:Value),cs[j]? =some c->w.cell? (a.add j)=some c:=by
 unfold World.cells? at h
 rw[if_pos (Nat.zero_le _)] at h
 obtain⟨h1,h2⟩:=abQ h
 simp only[List.length_range] at h1
 refine⟨h1,fun j c hj=>?_⟩
 have bK:j<n:=by rw[<-h1];exact(List.getElem?_eq_some_iff.1 hj).1
 obtain⟨y,e1,e2⟩:=h2 j j (List.getElem?_range bK)
 rw[hj] at e1
 injection e1 with e1
 subst e1
 exact e2
theorem afK {w:World} {a:Addr} {v:Value} (h:w.cell? a=some v):a=ad a.block a.off:=by
 unfold World.cell? at h
 split at h
 ·split at h
  ·cases h
  ·rename_i hs
   obtain⟨b,o,s⟩:=a
   cases s with
   |none=>rfl
   |some q=>simp at hs
 ·cases h
theorem XU (a:Addr):a.add 0=a:=by unfold Addr.add;simp
section
variable {H:Type} {enc:TypeId×Value->H} {P:Program} {w:World} {sp:Nat->Bool} {held:Bool}
def rN (P:Program) (w:World) (ts:List Ty) (cs:List Value):Prop:=
 ∃(x:Ty.DL ts) (bx:List PC),bx.map PC.er=Ty.aI ts x/\bx.map PC.val=cs/\(∀pc∈bx,Good w pc)/\Ty.oH ts x
theorem rN.one {t:Ty} {x:t.D} {pc:PC} {c:Value} (h1:pc.er=t.er x) (h2:pc.val=c) (h3:Good w pc) (h4:t.Wf x):rN P w [t] [c]:=
 ⟨x,[pc],by simp only[List.map_cons,List.map_nil,h1];rfl,by simp[h2],by simpa using h3,h4⟩
theorem acR {r:TypeId->Option (List Ty)} {q:TypeId->List Value->Option (DataW H×List MemPlace)} (hr:∀t ts cs y,r t=some ts->q t cs=some y->rN P w ts cs) (cs:List Value):
  ∀(fs:List Field) (off:Nat) (ts:List Ty) (ys:List (DataW H×List MemPlace)),GQ P r off fs=some ts->fs.mapM (fun f=>q f.type ((cs.drop f.offset).take (P.cellsOf f.type)))=some ys->rN P w ts ((cs.drop off).take ts.length)
 |[],off,ts,ys,h1,h2=>by
  simp only[GQ] at h1
  injection h1 with h1
  subst h1
  exact⟨(),[],rfl,by simp,by simp,trivial⟩
 |f::fs,off,ts,ys,h1,h2=>by
  simp only[GQ] at h1
  split at h1
  ·rename_i ts1 e1
   split at h1
   ·rename_i hc
    obtain⟨c1,c2⟩:=hc
    rw[Option.map_eq_some_iff] at h1
    obtain⟨ts2,e2,rfl⟩:=h1
    rw[List.mapM_cons] at h2
    cases hq:q f.type ((cs.drop f.offset).take (P.cellsOf f.type)) with
    |none=>simp[hq] at h2
    |some y=>
     cases hqs:fs.mapM (fun f=>q f.type ((cs.drop f.offset).take (P.cellsOf f.type))) with
     |none=>simp[hq,hqs] at h2
     |some ys2=>
      obtain⟨x1,p1,a1,a2,a3,a4⟩:=hr _ _ _ _ e1 hq
      obtain⟨x2,p2,b1,b2,b3,b4⟩:=acR hr cs fs (off+ts1.length) ts2 ys2 e2 hqs
      obtain⟨z,z1,z2⟩:=XZ ts1 ts2 x1 x2 a4 b4
      refine⟨z,p1++p2,by rw[List.map_append,a1,b1,z1],?_,fun pc bc=>(List.mem_append.1 bc).elim (a3 pc) (b3 pc),z2⟩
      rw[List.map_append,a2,b2,c1,c2,List.length_append,List.take_add,List.drop_drop]
   ·cases h1
  ·cases h1
theorem ar4 {iM:Nat} {t e:TypeId} {us:List Ty} {cs:List Value} {y:DataW H×List MemPlace} (ih:∀cs y,DataW.trod enc P w 0 sp held iM e cs=some y->rN P w us cs) (dU:0<us.length) (iw:P.cellsOf e=us.length)
  (hu:P.underlying t=some (.slice e)) (h:DataW.trod enc P w 0 sp held (iM+1) t cs=some y):rN P w [.list us] cs:=by
 rw[DataW.trod_step] at h
 unfold DataW.trodStep at h
 simp only[hu] at h
 split at h<;>first|(cases h;done)|(rename_i ez;cases ez;done)|skip
 ·exact rN.one (t:=.list us) (x:=([]:List (Ty.DL us))) (pc:=.list us.length none 0 []) (by rw[PC.dR];rfl) rfl (.nil _ _ _ dU) ⟨Nat.zero_le _,fun e he=>by cases he⟩
 ·rename_i e' a len cap ez
  injection ez with ez
  injection ez with ez
  subst ez
  split at h
  ·rename_i hc
   obtain⟨_,hlc,nQ⟩:=hc
   rw[Option.bind_eq_some_iff] at h
   obtain⟨elems,he,_⟩:=h
   obtain⟨g1,g2⟩:=abQ he
   simp only[List.length_range] at g1
   have each:∀i:Fin len,∃(x:Ty.DL us) (bx:List PC),bx.map PC.er=Ty.aI us x/\(∀pc∈bx,Good w pc)/\Ty.oH us x/\∀j pc,bx[j]? =some pc->w.cell? ((a.add (i.1*us.length)).add j)=some pc.val:=by
    intro i
    obtain⟨y1,_,e2⟩:=g2 i.1 i.1 (List.getElem?_range i.2)
    rw[Option.bind_eq_some_iff] at e2
    obtain⟨YS,e3,e4⟩:=e2
    rw[iw] at e3
    obtain⟨c1,c2⟩:=afL e3
    obtain⟨x,bx,a1,a2,a3,a4⟩:=ih YS y1 e4
    refine⟨x,bx,a1,a3,a4,fun j pc hj=>c2 j pc.val ?_⟩
    rw[<-a2,List.getElem?_map,hj]
    rfl
   let xs:List (Ty.DL us):=List.ofFn fun i:Fin len=>Classical.choose (each i)
   let px:List (List PC):=List.ofFn fun i:Fin len=>Classical.choose (Classical.choose_spec (each i))
   have fZ:∀k e,px[k]? =some e->∃i:Fin len,i.1=k/\e=Classical.choose (Classical.choose_spec (each i)):=by
    intro k e hk
    rw[List.getElem?_ofFn] at hk
    split at hk
    ·rename_i bK
     injection hk with hk
     exact⟨⟨k,bK⟩,rfl,hk.symm⟩
    ·cases hk
   have spec:=fun i:Fin len=>Classical.choose_spec (Classical.choose_spec (each i))
   have P2:px.length=len:=by simp[px]
   have atw:xs.length=len:=by simp[xs]
   have Ca:px.map (fun e=>e.map PC.er)=List.map (Ty.aI us) xs:=by
    apply List.ext_getElem?
    intro k
    simp only[List.getElem?_map,px,xs,List.getElem?_ofFn]
    by_cases hk:k<len
    ·simp only[hk,dif_pos,Option.map_some]
     rw[(spec ⟨k,hk⟩).1]
    ·simp only[hk,dif_neg,not_false_eq_true,Option.map_none]
   have xc:∀x∈xs,Ty.oH us x:=by
    intro x hx
    obtain⟨i,hi⟩:=List.mem_ofFn.1 hx
    subst hi
    exact(spec i).2.2.1
   have bP:∀e∈px,e.length=us.length:=by
    intro e he
    obtain⟨k,hk⟩:=List.getElem?_of_mem he
    obtain⟨i,_,rfl⟩:=fZ k e hk
    have:=congrArg List.length (spec i).1
    rwa[List.length_map,Ty.EE] at this
   have ie:∀k j c,At px k j c->Good w c:=by
    rintro k j c ⟨e,he,hj⟩
    obtain⟨i,_,rfl⟩:=fZ k e he
    exact(spec i).2.1 c (List.mem_of_getElem? hj)
   have y7:∀k j c,At px k j c->w.cell? ((a.add (k*us.length)).add j)=some c.val:=by
    rintro k j c ⟨e,he,hj⟩
    obtain⟨i,rfl,rfl⟩:=fZ k e he
    exact(spec i).2.2.2 j c hj
   refine rN.one (t:=.list us) (x:=xs) (pc:=.list us.length (some a) cap px) (by rw[PC.dR,Ca];rfl) (by simp[PC.val,P2]) ?_ ⟨by show xs.length<=maxLen;omega,fun x hx=>xc x hx⟩
   by_cases h0:px=[]
   ·rw[h0];exact .nil _ _ _ dU
   ·obtain⟨c0,eR⟩:=X8 h0 dU bP
    have h1:=y7 0 0 c0 eR
    rw[Nat.zero_mul,XU,XU] at h1
    have zr:=afK h1
    rw[zr] at y7⊢
    refine .cons _ _ _ _ _ h0 (by omega) dU bP (fun k j c hk=>?_) ie
    have:=y7 k j c hk
    rwa[oI,oI] at this
  ·cases h
theorem Xa:∀(iM:Nat) (t:TypeId) (cs:List Value) (y:DataW H×List MemPlace) (n:Nat) (ts:List Ty),DataW.trod enc P w 0 sp held iM t cs=some y->DJ P n t=some ts->rN P w ts cs
 |0,t,cs,y,n,ts,h,ht=>by simp[DataW.trod] at h
 |iM+1,t,cs,y,0,ts,h,ht=>by simp[DJ] at ht
 |iM+1,t,cs,y,n+1,ts,h,ht=>by
  simp only[DJ] at ht
  cases hu:P.underlying t with
  |none=>rw[hu] at ht;cases ht
  |some d=>
   rw[hu] at ht
   cases d<;>simp only at ht<;>first|(cases ht;done)|skip
   case bool=>
    injection ht with ht
    subst ht
    rw[DataW.trod_step] at h
    unfold DataW.trodStep at h
    simp only[hu] at h
    split at h<;>first|(cases h;done)|(rename_i ez;cases ez;done)|skip
    rename_i b ez
    exact rN.one (t:=.bool) (x:=b) (pc:=.bool b) rfl rfl (.bool b) trivial
   case int k=>
    injection ht with ht
    subst ht
    rw[DataW.trod_step] at h
    unfold DataW.trodStep at h
    simp only[hu] at h
    split at h<;>first|(cases h;done)|(rename_i ez;cases ez;done)|skip
    rename_i k1 k2 n2 ez
    injection ez with ez
    injection ez with ez
    subst ez
    split at h
    ·rename_i hc
     obtain⟨rfl,hc⟩:=hc
     simp only[Lit.wf,Bool.and_eq_true,decide_eq_true_eq] at hc
     exact rN.one (t:=.int k2) (x:=n2) (pc:=.int k2 n2) rfl rfl (.int k2 n2) hc
    ·cases h
   case slice e=>
    split at ht
    ·rename_i us mI
     split at ht
     ·rename_i dU
      obtain⟨dU,iw⟩:=dU
      injection ht with ht
      subst ht
      exact ar4 (fun cs y hy=>Xa iM e cs y n us hy mI) dU iw hu h
     ·cases ht
    ·cases ht
   case struct fs=>
    rw[DataW.trod_step] at h
    unfold DataW.trodStep at h
    simp only[hu] at h
    split at h<;>first|(cases h;done)|(rename_i ez;cases ez;done)|skip
    rename_i hlen
    split at ht
    ·rename_i us mI
     split at ht
     ·rename_i iw
      injection ht with ht
      subst ht
      rw[Option.map_eq_some_iff] at h
      obtain⟨ys,h1,h2⟩:=h
      have:=acR (P:=P) (w:=w) (fun t ts cs y h3 h4=>Xa iM t cs y n ts h4 h3) cs fs.toList 0 us ys mI h1
      rwa[List.drop_zero,<-iw,<-hlen,List.take_length] at this
     ·cases ht
    ·cases ht
end
end Go.Am
