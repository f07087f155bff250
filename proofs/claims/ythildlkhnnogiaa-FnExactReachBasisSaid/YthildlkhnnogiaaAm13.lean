/- Am13: operations that only compute; stores as operations. No condition. -/
import Derived.Test.YthildlkhnnogiaaAm12
import Derived.Laws.Small
import Derived.Laws.StructEq
set_option linter.unusedVariables false
namespace Go.Am
section
variable {B:Nat} {E:Ex} {w0 w w':World} {G G':Gh} {h h':Nat->Option aj} {used used':Nat->Bool} {tk:List PC} {N:Nat}
variable {P:Program} {o:Oper} {a:Act} {σ σ':St} {Q:Exit->Act->World->Prop}
theorem RA.c {x:C} {v:Value} (hv:RA w G h (.one (.c x)) v):∃pc:PC,pc.er=x/\pc.val=v/\Good w pc/\∀b,aK b pc->G.Im b:=(hv.dB (by simp)).1
theorem RA.Ci {k:IntKind} {n:Int} {v:Value} (hv:RA w G h (.one (.c (.int k n))) v):v=.int k n:=by
 obtain⟨pc,h1,h2,_⟩:=hv.c
 cases pc<;>simp[PC.er] at h1
 obtain⟨rfl,rfl⟩:=h1
 exact h2.symm
theorem RA.Bc {b:Bool} {v:Value} (hv:RA w G h (.one (.c (.bool b))) v):v=.bool b:=by
 obtain⟨pc,h1,h2,_⟩:=hv.c
 cases pc<;>simp[PC.er] at h1
 subst h1
 exact h2.symm
theorem RA.of_int (k:IntKind) (n:Int):RA w G h (.one (.c (.int k n))) (.int k n):=RA.dS rfl ⟨.int k n,rfl,rfl,.int _ _,fun b hb=>by cases hb⟩
theorem RA.of_bool (b:Bool):RA w G h (.one (.c (.bool b))) (.bool b):=RA.dS rfl ⟨.bool b,rfl,rfl,.bool _,fun b hb=>by cases hb⟩
theorem oH {x:C} {m:Nat}:¬(ah.one (.c x)).ref m:=fun h=>h
theorem gf (r:R B E w0 N σ a w G) {x:ah} {v:Value} (aS:(execOp a.eval o).run P w=.ok (.value v) w) (hv:RA w G σ.h x v) (hr:∀m,x.ref m->σ.used m=true) (hN:∀n,o.dst=some n->n<N):
  o.wp P a w (Nx B E w0 N (σ.put o.dst x)) Q:=jk aS ⟨G,r.put hv hr hN⟩
theorem Wy (r:R B E w0 N σ a w G) {x:Operand} {m:MO} (ho:o.op=.move x\/o.op=.assign x) (hN:∀n,o.dst=some n->n<N) (hm:bd x m=true):
  o.wp P a w (Nx B E w0 N (σ.put o.dst (σ.ev m))) Q:=by
 obtain⟨h1,h2⟩:=r.ev hm
 refine gf r ?_ h1 h2 hN
 rcases ho with ho|ho<;>simp[execOp,ho]
theorem adX (r:R B E w0 N σ a w G) {c x y:Operand} {mc mx my:MO} {b:Bool} (ho:o.op=.pick c x y) (hN:∀n,o.dst=some n->n<N) (hc:bd c mc=true) (hx:bd x mx=true) (hy:bd y my=true)
  (hb:σ.ev mc=.one (.c (.bool b))):o.wp P a w (Nx B E w0 N (σ.put o.dst (if b=true then σ.ev mx else σ.ev my))) Q:=by
 obtain⟨h1,_⟩:=r.ev hc
 rw[hb] at h1
 have hv:=h1.Bc
 obtain⟨x1,x2⟩:=r.ev hx
 obtain⟨y1,y2⟩:=r.ev hy
 refine gf r (v:=if b=true then a.eval x else a.eval y) ?_ ?_ ?_ hN
 ·simp only[execOp,ho,hv,asBool]
  cases b<;>simp
 ·cases b
  ·exact y1
  ·exact x1
 ·cases b
  ·exact y2
  ·exact x2
theorem alp {op:BinOp} {k:IntKind} {n m:Int} {c:C} {t:TypeId} (hs:BinOp.zQ op=false) (hx:Bb op k n m=some c):∃v,(binOp op t (.int k n) (.int k m)).run P w=.ok v w/\RA w G h (.one (.c c)) v:=by
 cases op with
 |add=>injection hx with hx;subst hx;exact⟨_,by simp[binOp,Op.intArith],RA.of_int _ _⟩
 |sub=>injection hx with hx;subst hx;exact⟨_,by simp[binOp,Op.intArith],RA.of_int _ _⟩
 |mul=>injection hx with hx;subst hx;exact⟨_,by simp[binOp,Op.intArith],RA.of_int _ _⟩
 |and=>injection hx with hx;subst hx;exact⟨_,by simp[binOp,intBits_and],RA.of_int _ _⟩
 |or=>injection hx with hx;subst hx;exact⟨_,by simp[binOp,intBits_or],RA.of_int _ _⟩
 |xor=>injection hx with hx;subst hx;exact⟨_,by simp[binOp,intBits_xor],RA.of_int _ _⟩
 |eql=>injection hx with hx;subst hx;exact⟨_,by simp[binOp,Op.intCmp],RA.of_bool _⟩
 |neq=>injection hx with hx;subst hx;exact⟨_,by simp[binOp,Op.intCmp],RA.of_bool _⟩
 |lss=>injection hx with hx;subst hx;exact⟨_,by simp[binOp,Op.intCmp],RA.of_bool _⟩
 |leq=>injection hx with hx;subst hx;exact⟨_,by simp[binOp,Op.intCmp],RA.of_bool _⟩
 |gtr=>injection hx with hx;subst hx;exact⟨_,by simp[binOp,Op.intCmp],RA.of_bool _⟩
 |geq=>injection hx with hx;subst hx;exact⟨_,by simp[binOp,Op.intCmp],RA.of_bool _⟩
 |quo=>
  simp only[Bb] at hx
  split at hx
  ·cases hx
  ·rename_i h0
   injection hx with hx;subst hx
   exact⟨_,by simp[binOp,Op.intDiv,h0],RA.of_int _ _⟩
 |rem=>
  simp only[Bb] at hx
  split at hx
  ·cases hx
  ·rename_i h0
   injection hx with hx;subst hx
   exact⟨_,by simp[binOp,Op.intDiv,h0],RA.of_int _ _⟩
 |shl=>simp[BinOp.zQ] at hs
 |shr=>simp[BinOp.zQ] at hs
 |andNot=>cases hx
theorem alv {op:BinOp} {k k':IntKind} {n m:Int} {c:C} {t:TypeId} (hs:BinOp.zQ op=true) (hx:FU op k n m=some c):∃v,(binOp op t (.int k n) (.int k' m)).run P w=.ok v w/\RA w G h (.one (.c c)) v:=by
 unfold FU at hx
 split at hx
 ·cases hx
 ·rename_i h0
  cases op<;>simp[BinOp.zQ] at hs
  ·injection hx with hx
   subst hx
   exact⟨_,by simp[binOp,Op.shift,h0],RA.of_int _ _⟩
  ·injection hx with hx
   subst hx
   have hp:(0:Int)<=2^min m.toNat k.bits:=Int.le_of_lt (Int.pow_pos (by decide))
   exact⟨_,by simp[binOp,Op.shift,h0,Int.fdiv_eq_ediv_of_nonneg _ hp],RA.of_int _ _⟩
theorem aah (op:BinOp) (t:TypeId) (x y:Operand) (k k':IntKind) (n m:Int):(eqGuard op t x y (.int k n) (.int k' m)).run P w=.ok () w:=by
 cases op<;>simp[eqGuard]
theorem aag (op:BinOp) (t:TypeId) (x y:Operand) (n m:Bool):(eqGuard op t x y (.bool n) (.bool m)).run P w=.ok () w:=by
 cases op<;>simp[eqGuard]
theorem adk (r:R B E w0 N σ a w G) {op:BinOp} {t t':TypeId} {x y:Operand} {mx my:MO} {c:C} (ho:o.op=.binOp op t x y t') (hN:∀n,o.dst=some n->n<N) (hx:bd x mx=true) (hy:bd y my=true)
  (hb:wL op (σ.ev mx) (σ.ev my)=some c):o.wp P a w (Nx B E w0 N (σ.put o.dst (.one (.c c)))) Q:=by
 obtain⟨x1,_⟩:=r.ev hx
 obtain⟨y1,_⟩:=r.ev hy
 unfold wL at hb
 split at hb
 ·rename_i k n k' m e1 e2
  rw[e1] at x1
  rw[e2] at y1
  have iH:=x1.Ci
  have tB:=y1.Ci
  split at hb
  ·rename_i hs
   obtain⟨v,h1,h2⟩:=alv (P:=P) (w:=w) (G:=G) (h:=σ.h) (k':=k') (t:=t) hs hb
   exact gf r (by simp only[execOp,ho,iH,tB];simp[aah,h1]) h2 (fun q hq=>absurd hq oH) hN
  ·rename_i hs
   split at hb
   ·rename_i hk
    subst hk
    obtain⟨v,h1,h2⟩:=alp (P:=P) (w:=w) (G:=G) (h:=σ.h) (t:=t) (by simpa using hs) hb
    exact gf r (by simp only[execOp,ho,iH,tB];simp[aah,h1]) h2 (fun q hq=>absurd hq oH) hN
   ·cases hb
 ·cases hb
theorem adl (r:R B E w0 N σ a w G) {op:BinOp} {t t':TypeId} {x y:Operand} {mx my:MO} {c:C} (ho:o.op=.binOp op t x y t') (hN:∀n,o.dst=some n->n<N) (hx:bd x mx=true) (hy:bd y my=true)
  (ht:P.underlying t=some .bool) (hb:Ba op (σ.ev mx) (σ.ev my)=some c):o.wp P a w (Nx B E w0 N (σ.put o.dst (.one (.c c)))) Q:=by
 obtain⟨x1,_⟩:=r.ev hx
 obtain⟨y1,_⟩:=r.ev hy
 unfold Ba at hb
 split at hb
 ·rename_i n m e1 e2
  rw[e1] at x1
  rw[e2] at y1
  have iH:=x1.Bc
  have tB:=y1.Bc
  have dP:(Op.equal t (.bool n) (.bool m)).run P w=.ok (n==m) w:=run_equal_bool w t n m ht
  split at hb
  ·injection hb with hb
   subst hb
   exact gf r (by simp only[execOp,ho,iH,tB];simp[aag,binOp,dP]) (RA.of_bool _) (fun q hq=>absurd hq oH) hN
  ·injection hb with hb
   subst hb
   exact gf r (by simp only[execOp,ho,iH,tB];simp[aag,binOp,dP,bne]) (RA.of_bool _) (fun q hq=>absurd hq oH) hN
  ·cases hb
 ·cases hb
theorem ad6 (r:R B E w0 N σ a w G) {op:UnOp} {t:TypeId} {x:Operand} {mx:MO} {c:C} (ho:o.op=.unOp op t x) (hN:∀n,o.dst=some n->n<N) (hx:bd x mx=true)
  (hb:Dd op (σ.ev mx)=some c):o.wp P a w (Nx B E w0 N (σ.put o.dst (.one (.c c)))) Q:=by
 obtain⟨x1,_⟩:=r.ev hx
 unfold Dd at hb
 split at hb
 ·rename_i n e1
  rw[e1] at x1
  have iH:=x1.Bc
  split at hb
  ·injection hb with hb
   subst hb
   exact gf r (by simp only[execOp,ho,iH];simp[Op.unary]) (RA.of_bool _) (fun q hq=>absurd hq oH) hN
  ·cases hb
 ·rename_i k n e1
  rw[e1] at x1
  have iH:=x1.Ci
  split at hb
  ·injection hb with hb
   subst hb
   exact gf r (by simp only[execOp,ho,iH];simp[Op.unary,Op.intArith]) (RA.of_int _ _) (fun q hq=>absurd hq oH) hN
  ·cases hb
 ·cases hb
theorem adA (r:R B E w0 N σ a w G) {t u:TypeId} {x:Operand} {mx:MO} {k k':IntKind} {n:Int} {d:TypeDesc} (ho:o.op=.convert t u x) (hN:∀n,o.dst=some n->n<N) (hx:bd x mx=true)
  (ht:P.underlying t=some d) (hu:P.underlying u=some (.int k)) (hb:σ.ev mx=.one (.c (.int k' n))):o.wp P a w (Nx B E w0 N (σ.put o.dst (.one (.c (.int k (k.wrap n)))))) Q:=by
 obtain⟨x1,_⟩:=r.ev hx
 rw[hb] at x1
 have iH:=x1.Ci
 refine gf r ?_ (RA.of_int _ _) (fun q hq=>absurd hq oH) hN
 simp only[execOp,ho,iH]
 cases d<;>simp[convert,run_underlying ht,run_underlying hu,Conv.intToInt]
def DI (P:Program) (s:TypeId) (f off:Nat):Bool:=
 match P.underlying s with
 |some (.struct n7)=>match n7[f]? with
  |some fd=>(fd.offset==off)&&(match P.info? fd.type with|some i=>i.size !=0|none=>false)
  |none=>false
 |_=>false
theorem CR {s:TypeId} {f off:Nat} (hc:DI P s f off=true) (b o:Nat):(Instr.fieldAt s (.pointer (some (ad b o))) f).run P w=.ok (.pointer (some (ad b (o+off)))) w:=by
 unfold DI at hc
 split at hc
 ·rename_i n7 hu
  split at hc
  ·rename_i fd hf
   split at hc
   ·rename_i i hi
    simp at hc
    obtain⟨rfl,bn⟩:=hc
    simp[Instr.fieldAt,run_underlying hu,hf,Instr.sureAddr,fieldPlace,sizeOf,typeInfo,hi,bn,mY]
   ·simp at hc
  ·cases hc
 ·cases hc
theorem MP (r:R B E w0 N σ a w G) {s:TypeId} {f off:Nat} {x:Operand} {mx:MO} {y:ah} (ho:o.op=.fieldAddr s x f) (hN:∀n,o.dst=some n->n<N) (hx:bd x mx=true) (hc:DI P s f off=true)
  (hy:(∃n k sz q,σ.ev mx=.one (.ptr n k sz q)/\(σ.h n).isSome=true/\y=.one (.ptr n k sz (q+off)))\/(∃xs q,σ.ev mx=.one (.cd xs q)/\y=.one (.cd xs (q+off)))\/(∃xs q j n s len,σ.ev mx=.one (.bK xs q j n s len)/\y=.one (.bK xs (q+off) j n s len))):
  o.wp P a w (Nx B E w0 N (σ.put o.dst y)) Q:=by
 obtain⟨x1,x2⟩:=r.ev hx
 rcases hy with⟨n,k,sz,q,e1,hs,rfl⟩|⟨xs,q,e1,rfl⟩|⟨xs,q,j,n,s',len,e1,rfl⟩
 ·rw[e1] at x1 x2
  have hp:σ.h n≠none:=by intro hh;rw[hh] at hs;cases hs
  obtain⟨h1,h2⟩:=(x1.dB (by simp)).1 hp
  refine gf r (v:=.pointer (some (ad (G.g n).b ((G.g n).o+k*sz+q+off)))) ?_ ?_ (fun m hm=>x2 m hm) hN
  ·simp only[execOp,ho,h2]
   simp[CR hc]
  ·exact RA.dS rfl fun _=>⟨h1,by rw[Nat.add_assoc]⟩
 ·rw[e1] at x1
  obtain⟨b,o',pe,p1,p2,p3,p4⟩:=(x1.dB (by simp)).1
  refine gf r (v:=.pointer (some (ad b (o'+q+off)))) ?_ ?_ (fun m hm=>absurd hm (by simp[ah.ref,ab.ref,ab.fL])) hN
  ·simp only[execOp,ho,p1]
   simp[CR hc]
  ·exact RA.dS rfl ⟨b,o',pe,by rw[Nat.add_assoc],p2,p3,p4⟩
 ·rw[e1] at x1 x2
  obtain⟨b,o',pe,p1,p2,p3,p4,p5⟩:=(x1.dB (by simp)).1
  refine gf r (v:=.pointer (some (ad b (o'+q+off)))) ?_ ?_ (fun m hm=>x2 m hm) hN
  ·simp only[execOp,ho,p1]
   simp[CR hc]
  ·exact RA.dS rfl ⟨b,o',pe,by rw[Nat.add_assoc],p2,p3,p4,p5⟩
theorem MR (r:R B E w0 N σ a w G) {x:Operand} {mx:MO} (ho:o.op=.nilCheck x) (hN:∀n,o.dst=some n->n<N) (hx:bd x mx=true)
  (hy:(∃n k sz q,σ.ev mx=.one (.ptr n k sz q)/\(σ.h n).isSome=true)\/(∃xs q,σ.ev mx=.one (.cd xs q))\/(∃xs q j n s len,σ.ev mx=.one (.bK xs q j n s len))):
  o.wp P a w (Nx B E w0 N (σ.put o.dst (σ.ev mx))) Q:=by
 obtain⟨x1,x2⟩:=r.ev hx
 have hp:∃ad,a.eval x=.pointer (some ad):=by
  rcases hy with⟨n,k,sz,q,e1,hs⟩|⟨xs,q,e1⟩|⟨xs,q,j,n,s',len,e1⟩
  ·rw[e1] at x1
   have hp:σ.h n≠none:=by intro hh;rw[hh] at hs;cases hs
   exact⟨_,((x1.dB (by simp)).1 hp).2⟩
  ·rw[e1] at x1
   obtain⟨b,o',pe,p1,_⟩:=(x1.dB (by simp)).1
   exact⟨_,p1⟩
  ·rw[e1] at x1
   obtain⟨b,o',pe,p1,_⟩:=(x1.dB (by simp)).1
   exact⟨_,p1⟩
 obtain⟨adr,hp⟩:=hp
 exact gf r (v:=a.eval x) (by simp only[execOp,ho,hp];simp) x1 x2 hN
theorem adK (r:R B E w0 N σ a w G) {x:Operand} {mx:MO} {i:Nat} {xs:List (Bool×List ab)} {ag:Bool} {cs:List ab} (ho:o.op=.extract x i) (hN:∀n,o.dst=some n->n<N) (hx:bd x mx=true)
  (h1:σ.ev mx=.bk xs) (h2:xs[i]? =some (ag,cs)) (h3:ag=false->∃c,cs=[c]):o.wp P a w (Nx B E w0 N (σ.put o.dst (kM ag cs))) Q:=by
 obtain⟨x1,x2⟩:=r.ev hx
 rw[h1] at x1 x2
 obtain⟨vs,e,hl,hv⟩:=x1
 have hi:i<vs.length:=by rw[hl];exact(List.getElem?_eq_some_iff.1 h2).1
 have hvi:vs[i]? =some vs[i]:=List.getElem?_eq_getElem hi
 have XX:=hv i _ _ h2 hvi
 refine gf r (v:=vs[i]) ?_ ?_ (fun m hm=>?_) hN
 ·simp only[execOp,ho,e]
  simp[Instr.extract,hi]
 ·cases ag
  ·obtain⟨c,rfl⟩:=h3 rfl
   exact .inr XX
  ·exact XX
 ·cases ag
  ·obtain⟨c,rfl⟩:=h3 rfl
   exact x2 m ⟨_,List.mem_of_getElem? h2,c,by simp,hm⟩
  ·obtain⟨c,hc,hm⟩:=hm
   exact x2 m ⟨_,List.mem_of_getElem? h2,c,hc,hm⟩
theorem adR (r:R B E w0 N σ a w G) {mx':Bool} {x y:Operand} {mx my:MO} {k k':IntKind} {n m:Int} {ts:Array TypeId} (ho:o.op=.call {callee:=.builtin (if mx'=true then .max else .min),args:=#[x,y],argTypes:=ts})
  (hN:∀n,o.dst=some n->n<N) (hx:bd x mx=true) (hy:bd y my=true) (h1:σ.ev mx=.one (.c (.int k n))) (h2:σ.ev my=.one (.c (.int k' m))):
  o.wp P a w (Nx B E w0 N (σ.put o.dst (.one (.c (.int k (if mx'=true then(if n<m then m else n) else(if m<n then m else n))))))) Q:=by
 obtain⟨x1,_⟩:=r.ev hx
 obtain⟨y1,_⟩:=r.ev hy
 rw[h1] at x1
 rw[h2] at y1
 have iH:=x1.Ci
 have tB:=y1.Ci
 refine gf r ?_ (RA.of_int _ _) (fun q hq=>absurd hq oH) hN
 cases mx'
 ·simp[execOp,ho,resolve,invoke,builtin,Builtin.min_,iH,tB,Builtin.min2]
 ·simp[execOp,ho,resolve,invoke,builtin,Builtin.max_,iH,tB,Builtin.max2]
end
end Go.Am
