/- Br1: what the form reads of an argument is typed data that lies in the world. No condition. -/
import Derived.Test.YthildlkhnnogiaaS7
import GoSem.ClaimChange
import Derived.ChangeReads
import Derived.ReadAgain
import Derived.ChangeSame
set_option linter.unusedVariables false
namespace Go.Am
def Gn (P:Program) (r:TypeId->Option (List Ty)):Nat->List Field->Option (List Ty)
 |_,[]=>some []
 |off,f::fs=>match r f.type with
  |some ts=>if f.offset=off/\P.cellsOf f.type=ts.length then(Gn P r (off+ts.length) fs).map (ts++·) else none
  |none=>none
def Dc (P:Program):Nat->TypeId->Option (List Ty)
 |0,_=>none
 |n+1,t=>match P.underlying t with
  |some .bool=>some [.bool]
  |some (.int k)=>some [.int k]
  |some (.slice e)=>match Dc P n e with
   |some ts=>if 0<ts.length/\P.cellsOf e=ts.length then some [.list ts] else none
   |none=>none
  |some (.struct fs)=>match Gn P (Dc P n) 0 fs.toList with
   |some ts=>if P.cellsOf t=ts.length then some ts else none
   |none=>none
  |_=>none
mutual
def Ty.Wf:(t:Ty)->t.D->Prop
 |.int k,n=>LE.le (α:=Int) k.min n/\LE.le (α:=Int) n k.max
 |.bool,_=>True
 |.list ts,xs=>List.length (α:=Ty.DL ts) xs<=maxLen/\∀e:Ty.DL ts,List.Mem (α:=Ty.DL ts) e xs->Ty.km ts e
def Ty.km:(ts:List Ty)->Ty.DL ts->Prop
 |[],_=>True
 |[t],x=>Ty.Wf t x
 |t::u::ts,x=>Ty.Wf t x.1/\Ty.km (u::ts) x.2
end
theorem VV (t:Ty) (ts:List Ty) (x:t.D) (y:Ty.DL ts):Ty.km (t::ts) (yV t ts x y)↔t.Wf x/\Ty.km ts y:=by
 cases ts with
 |nil=>exact⟨fun h=>⟨h,trivial⟩,fun h=>h.1⟩
 |cons u us=>exact Iff.rfl
theorem acR (t:Ty):∀(ts:List Ty) (x:Ty.DL (t::ts)),∃a b,x=yV t ts a b
 |[],x=>⟨x,(),rfl⟩
 |_::_,x=>⟨x.1,x.2,rfl⟩
theorem Vj:∀(ts us:List Ty) (x:Ty.DL ts) (y:Ty.DL us),Ty.km ts x->Ty.km us y->∃z:Ty.DL (ts++us),Ty.aw (ts++us) z=Ty.aw ts x++Ty.aw us y/\Ty.km (ts++us) z
 |[],us,x,y,_,h=>⟨y,rfl,h⟩
 |t::ts,us,x,y,h1,h2=>by
  obtain⟨a,b,rfl⟩:=acR t ts x
  rw[VV] at h1
  obtain⟨z,e1,e2⟩:=Vj ts us b y h1.2 h2
  exact⟨yV t (ts++us) a z,by
   have h1:Ty.aw (t::(ts++us)) (yV t (ts++us) a z)=t.er a::Ty.aw (ts++us) z:=Mz _ _ _ _
   have h2:Ty.aw (t::ts) (yV t ts a b)=t.er a::Ty.aw ts b:=Mz _ _ _ _
   exact h1.trans (by rw[h2,e1];rfl),(VV _ _ _ _).2 ⟨h1.1,e2⟩⟩
theorem Y6 {α β:Type} {f:α->Option β}:∀{l:List α} {r:List β},l.mapM f=some r->r.length=l.length/\∀(i:Nat) (x:α),l[i]? =some x->∃y,r[i]? =some y/\f x=some y:=by
 intro l
 induction l with
 |nil=>intro r h;simp at h;subst h;exact⟨rfl,by simp⟩
 |cons a l ih=>
  intro r h
  rw[List.mapM_cons] at h
  cases hx:f a with
  |none=>simp[hx] at h
  |some y=>
   cases O1:l.mapM f with
   |none=>simp[hx,O1] at h
   |some ys=>
    simp[hx,O1] at h
    subst h
    obtain⟨i1,i2⟩:=ih O1
    refine⟨by simp[i1],fun i x hi=>?_⟩
    cases i with
    |zero=>simp at hi;subst hi;exact⟨y,rfl,hx⟩
    |succ i=>exact i2 i x (by simpa using hi)
theorem acz {w:World} {a:Addr} {n:Nat} {cs:List Value} (h:w.cells? 0 a n=some cs):cs.length=n/\∀(j:Nat) (c:Value),cs[j]? =some c->w.cell? (a.add j)=some c:=by
 unfold World.cells? at h
 rw[if_pos (Nat.zero_le _)] at h
 obtain⟨h1,h2⟩:=Y6 h
 simp only[List.length_range] at h1
 refine⟨h1,fun j c hj=>?_⟩
 have bS:j<n:=by rw[<-h1];exact(List.getElem?_eq_some_iff.1 hj).1
 obtain⟨y,e1,e2⟩:=h2 j j (List.getElem?_range bS)
 rw[hj] at e1
 injection e1 with e1
 subst e1
 exact e2
theorem acy {w:World} {a:Addr} {v:Value} (h:w.cell? a=some v):a=ad a.block a.off:=by
 unfold World.cell? at h
 split at h
 ·split at h
  ·cases h
  ·rename_i hs
   obtain⟨b,o,s⟩:=a
   cases s with
   |none=>rfl
   |some q=>simp at hs
 ·cases h
theorem Ve (a:Addr):a.add 0=a:=by unfold Addr.add;simp
section
variable {H:Type} {enc:TypeId×Value->H} {P:Program} {w:World} {sp:Nat->Bool} {held:Bool}
def rC (P:Program) (w:World) (ts:List Ty) (cs:List Value):Prop:=
 ∃(x:Ty.DL ts) (bg:List PC),bg.map PC.er=Ty.aw ts x/\bg.map PC.val=cs/\(∀pc∈bg,Good w pc)/\Ty.km ts x
theorem rC.one {t:Ty} {x:t.D} {pc:PC} {c:Value} (h1:pc.er=t.er x) (h2:pc.val=c) (h3:Good w pc) (h4:t.Wf x):rC P w [t] [c]:=
 ⟨x,[pc],by simp only[List.map_cons,List.map_nil,h1];rfl,by simp[h2],by simpa using h3,h4⟩
theorem Z1 {r:TypeId->Option (List Ty)} {q:TypeId->List Value->Option (DataW H×List MemPlace)} (hr:∀t ts cs y,r t=some ts->q t cs=some y->rC P w ts cs) (cs:List Value):
  ∀(fs:List Field) (off:Nat) (ts:List Ty) (ys:List (DataW H×List MemPlace)),Gn P r off fs=some ts->fs.mapM (fun f=>q f.type ((cs.drop f.offset).take (P.cellsOf f.type)))=some ys->rC P w ts ((cs.drop off).take ts.length)
 |[],off,ts,ys,h1,h2=>by
  simp only[Gn] at h1
  injection h1 with h1
  subst h1
  exact⟨(),[],rfl,by simp,by simp,trivial⟩
 |f::fs,off,ts,ys,h1,h2=>by
  simp only[Gn] at h1
  split at h1
  ·rename_i ts1 e1
   split at h1
   ·rename_i hc
    obtain⟨c1,c2⟩:=hc
    rw[Option.map_eq_some_iff] at h1
    obtain⟨ts2,e2,rfl⟩:=h1
    rw[List.mapM_cons] at h2
    cases hq:q f.type ((cs.drop f.offset).take (P.cellsOf f.type)) with
    |none=>simp[hq] at h2
    |some y=>
     cases XV:fs.mapM (fun f=>q f.type ((cs.drop f.offset).take (P.cellsOf f.type))) with
     |none=>simp[hq,XV] at h2
     |some ys2=>
      obtain⟨x1,p1,a1,a2,a3,a4⟩:=hr _ _ _ _ e1 hq
      obtain⟨x2,p2,b1,b2,b3,b4⟩:=Z1 hr cs fs (off+ts1.length) ts2 ys2 e2 XV
      obtain⟨z,z1,z2⟩:=Vj ts1 ts2 x1 x2 a4 b4
      refine⟨z,p1++p2,by rw[List.map_append,a1,b1,z1],?_,fun pc aT=>(List.mem_append.1 aT).elim (a3 pc) (b3 pc),z2⟩
      rw[List.map_append,a2,b2,c1,c2,List.length_append,List.take_add,List.drop_drop]
   ·cases h1
  ·cases h1
theorem alX {eW:Nat} {t e:TypeId} {us:List Ty} {cs:List Value} {y:DataW H×List MemPlace} (ih:∀cs y,DataW.trod enc P w 0 sp held eW e cs=some y->rC P w us cs) (dQ:0<us.length) (fQ:P.cellsOf e=us.length)
  (hu:P.underlying t=some (.slice e)) (h:DataW.trod enc P w 0 sp held (eW+1) t cs=some y):rC P w [.list us] cs:=by
 rw[DataW.trod_step] at h
 unfold DataW.trodStep at h
 simp only[hu] at h
 split at h<;>first|(cases h;done)|(rename_i dP;cases dP;done)|skip
 ·exact rC.one (t:=.list us) (x:=([]:List (Ty.DL us))) (pc:=.list us.length none 0 []) (by rw[PC.cN];rfl) rfl (.nil _ _ _ dQ) ⟨Nat.zero_le _,fun e he=>by cases he⟩
 ·rename_i e' a len cap dP
  injection dP with dP
  injection dP with dP
  subst dP
  split at h
  ·rename_i hc
   obtain⟨_,hlc,ij⟩:=hc
   rw[Option.bind_eq_some_iff] at h
   obtain⟨elems,he,_⟩:=h
   obtain⟨g1,g2⟩:=Y6 he
   simp only[List.length_range] at g1
   have each:∀i:Fin len,∃(x:Ty.DL us) (bg:List PC),bg.map PC.er=Ty.aw us x/\(∀pc∈bg,Good w pc)/\Ty.km us x/\∀j pc,bg[j]? =some pc->w.cell? ((a.add (i.1*us.length)).add j)=some pc.val:=by
    intro i
    obtain⟨y1,_,e2⟩:=g2 i.1 i.1 (List.getElem?_range i.2)
    rw[Option.bind_eq_some_iff] at e2
    obtain⟨V0,e3,e4⟩:=e2
    rw[fQ] at e3
    obtain⟨c1,c2⟩:=acz e3
    obtain⟨x,bg,a1,a2,a3,a4⟩:=ih V0 y1 e4
    refine⟨x,bg,a1,a3,a4,fun j pc hj=>c2 j pc.val ?_⟩
    rw[<-a2,List.getElem?_map,hj]
    rfl
   let xs:List (Ty.DL us):=List.ofFn fun i:Fin len=>Classical.choose (each i)
   let px:List (List PC):=List.ofFn fun i:Fin len=>Classical.choose (Classical.choose_spec (each i))
   have dC:∀k e,px[k]? =some e->∃i:Fin len,i.1=k/\e=Classical.choose (Classical.choose_spec (each i)):=by
    intro k e hk
    rw[List.getElem?_ofFn] at hk
    split at hk
    ·rename_i bS
     injection hk with hk
     exact⟨⟨k,bS⟩,rfl,hk.symm⟩
    ·cases hk
   have spec:=fun i:Fin len=>Classical.choose_spec (Classical.choose_spec (each i))
   have OI:px.length=len:=by simp[px]
   have anh:xs.length=len:=by simp[xs]
   have Oz:px.map (fun e=>e.map PC.er)=List.map (Ty.aw us) xs:=by
    apply List.ext_getElem?
    intro k
    simp only[List.getElem?_map,px,xs,List.getElem?_ofFn]
    by_cases hk:k<len
    ·simp only[hk,dif_pos,Option.map_some]
     rw[(spec ⟨k,hk⟩).1]
    ·simp only[hk,dif_neg,not_false_eq_true,Option.map_none]
   have tC:∀x∈xs,Ty.km us x:=by
    intro x hx
    obtain⟨i,hi⟩:=List.mem_ofFn.1 hx
    subst hi
    exact(spec i).2.2.1
   have bn:∀e∈px,e.length=us.length:=by
    intro e he
    obtain⟨k,hk⟩:=List.getElem?_of_mem he
    obtain⟨i,_,rfl⟩:=dC k e hk
    have:=congrArg List.length (spec i).1
    rwa[List.length_map,Ty.Bw] at this
   have eQ:∀k j c,At px k j c->Good w c:=by
    rintro k j c ⟨e,he,hj⟩
    obtain⟨i,_,rfl⟩:=dC k e he
    exact(spec i).2.1 c (List.mem_of_getElem? hj)
   have nf:∀k j c,At px k j c->w.cell? ((a.add (k*us.length)).add j)=some c.val:=by
    rintro k j c ⟨e,he,hj⟩
    obtain⟨i,rfl,rfl⟩:=dC k e he
    exact(spec i).2.2.2 j c hj
   refine rC.one (t:=.list us) (x:=xs) (pc:=.list us.length (some a) cap px) (by rw[PC.cN,Oz];rfl) (by simp[PC.val,OI]) ?_ ⟨by show xs.length<=maxLen;omega,fun x hx=>tC x hx⟩
   by_cases h0:px=[]
   ·rw[h0];exact .nil _ _ _ dQ
   ·obtain⟨c0,cA⟩:=Vq h0 dQ bn
    have h1:=nf 0 0 c0 cA
    rw[Nat.zero_mul,Ve,Ve] at h1
    have zC:=acy h1
    rw[zC] at nf⊢
    refine .cons _ _ _ _ _ h0 (by omega) dQ bn (fun k j c hk=>?_) eQ
    have:=nf k j c hk
    rwa[mY,mY] at this
  ·cases h
theorem UD:∀(eW:Nat) (t:TypeId) (cs:List Value) (y:DataW H×List MemPlace) (n:Nat) (ts:List Ty),DataW.trod enc P w 0 sp held eW t cs=some y->Dc P n t=some ts->rC P w ts cs
 |0,t,cs,y,n,ts,h,ht=>by simp[DataW.trod] at h
 |eW+1,t,cs,y,0,ts,h,ht=>by simp[Dc] at ht
 |eW+1,t,cs,y,n+1,ts,h,ht=>by
  simp only[Dc] at ht
  cases hu:P.underlying t with
  |none=>rw[hu] at ht;cases ht
  |some d=>
   rw[hu] at ht
   cases d<;>simp only at ht<;>first|(cases ht;done)|skip
   case bool=>
    injection ht with ht
    subst ht
    rw[DataW.trod_step] at h
    unfold DataW.trodStep at h
    simp only[hu] at h
    split at h<;>first|(cases h;done)|(rename_i dP;cases dP;done)|skip
    rename_i b dP
    exact rC.one (t:=.bool) (x:=b) (pc:=.bool b) rfl rfl (.bool b) trivial
   case int k=>
    injection ht with ht
    subst ht
    rw[DataW.trod_step] at h
    unfold DataW.trodStep at h
    simp only[hu] at h
    split at h<;>first|(cases h;done)|(rename_i dP;cases dP;done)|skip
    rename_i k1 k2 n2 dP
    injection dP with dP
    injection dP with dP
    subst dP
    split at h
    ·rename_i hc
     obtain⟨rfl,hc⟩:=hc
     simp only[Lit.wf,Bool.and_eq_true,decide_eq_true_eq] at hc
     exact rC.one (t:=.int k2) (x:=n2) (pc:=.int k2 n2) rfl rfl (.int k2 n2) hc
    ·cases h
   case slice e=>
    split at ht
    ·rename_i us jq
     split at ht
     ·rename_i dQ
      obtain⟨dQ,fQ⟩:=dQ
      injection ht with ht
      subst ht
      exact alX (fun cs y hy=>UD eW e cs y n us hy jq) dQ fQ hu h
     ·cases ht
    ·cases ht
   case struct fs=>
    rw[DataW.trod_step] at h
    unfold DataW.trodStep at h
    simp only[hu] at h
    split at h<;>first|(cases h;done)|(rename_i dP;cases dP;done)|skip
    rename_i hlen
    split at ht
    ·rename_i us jq
     split at ht
     ·rename_i fQ
      injection ht with ht
      subst ht
      rw[Option.map_eq_some_iff] at h
      obtain⟨ys,h1,h2⟩:=h
      have:=Z1 (P:=P) (w:=w) (fun t ts cs y h3 h4=>UD eW t cs y n ts h4 h3) cs fs.toList 0 us ys jq h1
      rwa[List.drop_zero,<-fQ,<-hlen,List.take_length] at this
     ·cases ht
    ·cases ht
end
end Go.Am
