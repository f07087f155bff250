/- Part of the proof. No condition. -/
import Derived.Test.YtnndpobalfaalaaGreatM84
import Derived.Test.YtnndpobalfaalaaGreatM64
import Derived.Lib.Strings
import Derived.Lib.Slices
import Derived.Lib.Small
import Derived.Lib.Walk
import Derived.Lib.BitFns
import Derived.KernelRfl
import Derived.Test.YtnndpobalfaalaaGreatRows
namespace Go.Am
def aeG:aE:=⟨86,anj,aw5,aBd,Iq⟩
end Go.Am
namespace Go.Proofs
set_option maxHeartbeats 4000000 in
set_option maxRecDepth 100000 in
theorem Tryz.bits_Len64 (x:Int) (w:World) (h0:0<=x) (h1:x<=18446744073709551615):
    Calls Tryz.prog 97 #[.int .u64 x] w fun e w'=>e=.returned (.int .i64 (Lib.bitLen x.toNat))/\w'=w:=by
  go_enter Tryz.func97,Tryz.ntmps97
  go_wp2
  all_goals (go_ret;refine⟨congrArg Ending.returned (congrArg (Value.int IntKind.i64) ?_),rfl⟩)
  all_goals first
    |(rw[Lib.len8_of (x/4294967296/65536/256%256) (by omega) (by omega)]
      have e:(x/4294967296/65536/256%256).toNat=x.toNat/72057594037927936:=by omega
      have l:=Lib.bitLen_le8' (x/4294967296/65536/256%256) (by omega) (by omega);have s:=Lib.bitLen_shift56 x.toNat (by omega) (by omega);rw[e] at l⊢;omega)
    |(rw[Lib.len8_of (x/4294967296/65536%256) (by omega) (by omega)]
      have e:(x/4294967296/65536%256).toNat=x.toNat/281474976710656:=by omega
      have l:=Lib.bitLen_le8' (x/4294967296/65536%256) (by omega) (by omega);have s:=Lib.bitLen_shift48 x.toNat (by omega) (by omega);rw[e] at l⊢;omega)
    |(rw[Lib.len8_of (x/4294967296/256%256) (by omega) (by omega)]
      have e:(x/4294967296/256%256).toNat=x.toNat/1099511627776:=by omega
      have l:=Lib.bitLen_le8' (x/4294967296/256%256) (by omega) (by omega);have s:=Lib.bitLen_shift40 x.toNat (by omega) (by omega);rw[e] at l⊢;omega)
    |(rw[Lib.len8_of (x/4294967296%256) (by omega) (by omega)]
      have e:(x/4294967296%256).toNat=x.toNat/4294967296:=by omega
      have l:=Lib.bitLen_le8' (x/4294967296%256) (by omega) (by omega);have s:=Lib.bitLen_shift32 x.toNat (by omega) (by omega);rw[e] at l⊢;omega)
    |(rw[Lib.len8_of (x/65536/256%256) (by omega) (by omega)]
      have e:(x/65536/256%256).toNat=x.toNat/16777216:=by omega
      have l:=Lib.bitLen_le8' (x/65536/256%256) (by omega) (by omega);have s:=Lib.bitLen_shift24 x.toNat (by omega) (by omega);rw[e] at l⊢;omega)
    |(rw[Lib.len8_of (x/65536%256) (by omega) (by omega)]
      have e:(x/65536%256).toNat=x.toNat/65536:=by omega
      have l:=Lib.bitLen_le8' (x/65536%256) (by omega) (by omega);have s:=Lib.bitLen_shift16 x.toNat (by omega) (by omega);rw[e] at l⊢;omega)
    |(rw[Lib.len8_of (x/256%256) (by omega) (by omega)]
      have e:(x/256%256).toNat=x.toNat/256:=by omega
      have l:=Lib.bitLen_le8' (x/256%256) (by omega) (by omega);have s:=Lib.bitLen_shift8 x.toNat (by omega) (by omega);rw[e] at l⊢;omega)
    |(rw[Lib.len8_of (x%256) (by omega) (by omega)]
      have e:(x%256).toNat=x.toNat:=by omega
      have l:=Lib.bitLen_le8' (x%256) (by omega) (by omega);rw[e] at l⊢;omega)
theorem Tryz.bits_Len (x:Int) (w:World) (h0:0<=x) (h1:x<=18446744073709551615):
  Calls Tryz.prog 86 #[.int .u64 x] w fun e w'=>e=.returned (.int .i64 (Lib.bitLen x.toNat))/\w'=w:=by
 go_enter Tryz.func86,Tryz.ntmps86
 go_wp2_with (go_at_call 97;refine(Tryz.bits_Len64 x _ h0 h1).mono ?_;rintro e w' ⟨rfl,rfl⟩)
 go_ret
 exact⟨rfl,rfl⟩
end Go.Proofs
namespace Go.Am
theorem az2:dP Go.Proofs.Tryz.prog 86 aeG.M/\cc Go.Proofs.Tryz.prog 86=true:=by
 refine⟨fun ds rs hM w vals ha=>?_,by decide+kernel⟩;obtain⟨x,y,rfl,hF,rfl⟩:=aE.Fl hM;have x':Int:=x;have AU:Iq x=some y:=hF;unfold Iq at AU;split at AU
 ·rename_i hx;injection AU with AU;obtain⟨hl,hv⟩:=ha;match vals,hl with
  |[v],_=>
   obtain⟨cH,a1,a2,a3⟩:=hv 0 (.one,[.int .u64 x]) v rfl rfl;match cH,a3 with
   |[pc],a3=>
    simp only[List.map_cons,List.map_nil,List.cons.injEq,and_true] at a3 a1;subst a3;cases pc with
    |int k n=>
     simp only[PC.er] at a1;injection a1 with k1 k2;subst k1 k2;have hB:=Go.Proofs.Tryz.bits_Len n w hx.1 hx.2;refine hB.mono ?_;rintro e w' ⟨rfl,rfl⟩;have dE:∀pc∈([(.one,[PC.int .i64 y])]:List (K×List PC)).flatMap (·.2),pc=PC.int .i64 y:=fun pc bU=>by
      simp only[List.flatMap_cons,List.flatMap_nil,List.append_nil,List.mem_singleton] at bU;exact bU
     have afi:∀b,¬mh b (PC.int .i64 y):=fun b hb=>by
      rcases hb with hb|⟨sz,o,cap,xs,e,_⟩
      ·cases hb
      ·cases e
     refine⟨[(.one,[.int .i64 y])],rfl,by rw[<-AU];rfl,fun p hp=>?_,⟨fun pc bU=>?_,fun pc bU b hb=>?_,fun i j pc fh b mQ h1 h2 hb=>?_⟩,Fr.refl _ _ _ (Nat.le_refl _)⟩
     ·rw[List.mem_singleton] at hp;subst hp;exact⟨(by intro e;cases e),fun _=>rfl⟩
     ·rw[dE pc bU];exact⟨.int _ _,.int _ _,trivial⟩
     ·rw[dE pc bU] at hb;exact absurd hb (afi b)
     ·rw[dE pc (List.mem_of_getElem? h1)] at hb;exact absurd hb (afi b)
    |bool b=>simp[PC.er] at a1
    |list sz a cap xs=>simp[PC.er] at a1
 ·cases AU
end Go.Am
