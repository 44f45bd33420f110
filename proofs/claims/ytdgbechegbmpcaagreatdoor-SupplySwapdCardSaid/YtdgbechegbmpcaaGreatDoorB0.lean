/- Part of a proof that a law returns true. Conditions: those in each theorem. -/
import Derived.Test.YtdgbechegbmpcaaGreatDoorEngP
import Derived.Test.YtdgbechegbmpcaaGreatDoorProg
import Derived.KernelRfl
set_option linter.unusedVariables false
set_option linter.unusedSimpArgs false
set_option maxRecDepth 100000
namespace Go.Proofs
theorem Tryz.mixes:Tryz.prog.follows .mixedOrders=true:=by kernel_rfl
end Go.Proofs
namespace Go.Proofs.YtdgbechegbmpcaaGreatDoor
def Q(p:Prop):Prop:=p
abbrev vi(n:Int):Value:=.int .i64 n
abbrev OA:=Option Addr
abbrev pt(a:OA):Value:=.pointer a
abbrev sl(a:OA)(l c:Nat):Value:=.slice a l c
abbrev rT(v:Value):Ending:=.returned v
abbrev aD(n:Nat):OA:=some ⟨n,0,none⟩
abbrev ptr(b:Nat):Value:=.pointer (some ⟨b,0,none⟩)
abbrev KV:=Value->World->Prop
abbrev Wp(p:OA)(X:Prop):Prop:=Eng.Wif (Eng.isP p) X False
abbrev Wn(n:Int)(l:Nat)(X:Prop):Prop:=Eng.Wif (Eng.inB n l) X False
abbrev Dr(w:World)(X:World->Prop):Prop:=∀w1,w1=w.drew->X w1
abbrev RI(w:World)(b o:Nat)(X:Int->Prop):Prop:=∃x:Int,Eng.rd w b o=some (vi x)/\X x
abbrev RP(w:World)(b o:Nat)(X:OA->Prop):Prop:=∃x:OA,Eng.rd w b o=some (.pointer x)/\X x
abbrev RS(w:World)(b o:Nat)(X:OA->Nat->Nat->Prop):Prop:=∃(a:OA) (l c:Nat),Eng.rd w b o=some (.slice a l c)/\X a l c
abbrev CI(f:Nat)(a:Array Value)(w:World)(X:Int->World->Prop):Prop:=Go.Calls Tryz.prog f a w fun e w'=>∃n:Int,e=.returned (vi n)/\X n w'
abbrev CJ(f:Nat)(a:Array Value)(w:World)(X:Int->Int->World->Prop):Prop:=Go.Calls Tryz.prog f a w fun e w'=>∃n m:Int,e=.returned (.tuple #[vi n,vi m])/\X n m w'
abbrev CB(f:Nat)(a:Array Value)(w:World)(X:Bool->World->Prop):Prop:=Go.Calls Tryz.prog f a w fun e w'=>∃b:Bool,e=.returned (.bool b)/\X b w'
abbrev CP(f:Nat)(a:Array Value)(w:World)(X:OA->World->Prop):Prop:=Go.Calls Tryz.prog f a w fun e w'=>∃p:OA,e=.returned (.pointer p)/\X p w'
abbrev CS(f:Nat)(a:Array Value)(w:World)(X:OA->Nat->Nat->World->Prop):Prop:=Go.Calls Tryz.prog f a w fun e w'=>∃(a:OA) (l c:Nat),e=.returned (.slice a l c)/\X a l c w'
abbrev C0(f:Nat)(a:Array Value)(w:World)(X:World->Prop):Prop:=Go.Calls Tryz.prog f a w fun e w'=>e=.returned (.tuple #[])/\X w'
abbrev Ret(f:FuncId)(a:Array Value)(w:World)(K:KV):Prop:=Go.Calls Tryz.prog f a w fun e w'=>∃v,e=.returned v/\K v w'
theorem vcA(inl:List Nat)(d:Nat)(J:List Nat){f:FuncId}{fn:Func}(hf:Tryz.prog.funcs[f]? = some fn){args:List Value}{w:World}{K:KV}{X:Prop}(h:X)(hb:fn.body.isSome=true:=by kernel_rfl)(hn:decide (args.length<=fn.ntmps)=true:=by kernel_rfl)
 (hX:X=Eng.wBody Tryz.prog (Eng.handOf Tryz.prog inl d) J fn (Eng.bodyOf fn) args w K:=by kernel_rfl):Ret f args.toArray w K:=Eng.vc_of inl d J Tryz.mixes hf hb hn hX h
abbrev bx(w:World):OA:=some ⟨w.heap.size,0,none⟩
abbrev bp(w:World):Value:=.pointer (some ⟨w.heap.size,0,none⟩)
abbrev vu(n:Int):Value:=.int .u8 n
abbrev AW(w:World)(c:Array Value)(t:TypeId)(X:World->Prop):Prop:=∀w1,w1=w.alloc (.cells c t)->X w1
abbrev Sw(w:World)(b o:Nat)(v:Value)(X:World->Prop):Prop:=Eng.wr w b o/\∀w1,w1=Eng.st w b o v->X w1
abbrev St(w:World)(b o:Nat)(v:Value)(X:World->Prop):Prop:=∀w1,w1=Eng.st w b o v->X w1
abbrev Rt(w:World)(b o:Nat)(v:Value)(X:Prop):Prop:=(Eng.rd w b o=some v/\True)/\X
abbrev Lt(n:Nat)(X:Nat->Prop):Prop:=∃m,Nat.succ m<=n/\X m
abbrev RV(w:World)(b o:Nat)(X:Value->Prop):Prop:=∃x:Value,Eng.rd w b o=some x/\X x
abbrev RB(w:World)(b o:Nat)(X:Bool->Prop):Prop:=∃x:Bool,Eng.rd w b o=some (.bool x)/\X x
abbrev R8(w:World)(b o:Nat)(X:Int->Prop):Prop:=∃x:Int,Eng.rd w b o=some (.int .u8 x)/\X x
abbrev Ri(w:World)(p:OA)(o:Nat)(X:Int->Prop):Prop:=RI w (Eng.pb p) (Eng.po p+o) X
abbrev Rp(w:World)(p:OA)(o:Nat)(X:OA->Prop):Prop:=RP w (Eng.pb p) (Eng.po p+o) X
abbrev Rs(w:World)(p:OA)(o:Nat)(X:OA->Nat->Nat->Prop):Prop:=RS w (Eng.pb p) (Eng.po p+o) X
abbrev Rv(w:World)(p:OA)(o:Nat)(X:Value->Prop):Prop:=RV w (Eng.pb p) (Eng.po p+o) X
abbrev Rb(w:World)(p:OA)(o:Nat)(X:Bool->Prop):Prop:=RB w (Eng.pb p) (Eng.po p+o) X
abbrev Re(w:World)(p:OA)(o:Nat)(X:Int->Prop):Prop:=R8 w (Eng.pb p) (Eng.po p+o) X
abbrev L0:List Nat:=[104]
abbrev L1:List Nat:=[167,58,178,213,179,222,165,234,98,169,90,41,104,56,166,51,155,50,180]
abbrev L2:List Nat:=[167,58,178,213,179,222,165,234,98,169,90,41,104,56,166]
abbrev L3:List Nat:=[167,58,178,213,179,222,165,234,98,169,90,41,104,56,166,155,180]
abbrev L4:List Nat:=[167,58,178,213,179,222,165,234,98,169,90,41,104,56,166,155,180,177]
abbrev L5:List Nat:=[167,58,178,213,179,222,165,234,98,169,90,41,104,56,166,155,180,177,206,208,209,210]
abbrev L6:List Nat:=[167,58,178,213,179,222,165,234,98,169,90,41,104,56,166,155,180,177,279]
abbrev L7:List Nat:=[167,58,178,213,179,222,165,234,98,169,90,41,104]
abbrev L8:List Nat:=[167,58,178,213,179,222,165,234,98,169,90,41,104,55]
abbrev L9:List Nat:=[167,58,178,213,179,222,165,234,98,66,169,90,41,104,151,340]
abbrev L10:List Nat:=[169]
abbrev L11:List Nat:=[205]
abbrev L12:List Nat:=[179]
abbrev L13:List Nat:=[167,58,178,213,179,222,165,234,98,169,90,41,104,340,346]
abbrev L14:List Nat:=[104,90,41,169]
abbrev L15:List Nat:=[104,204,90,41]
abbrev L16:List Nat:=[104,204]
end Go.Proofs.YtdgbechegbmpcaaGreatDoor
namespace Go.Proofs.YtdgbechegbmpcaaGreatDoor
open Go Go.Eng Go.Proofs.Tryz
open Go.Value (bool func)
open Option (isNone)
open Go.IntKind (wrap)
theorem vc61(c0:Nat->Int)(w:WD)(K:KV)(h:Q (AW w (List.toArray (AK .i64 c0 0 94)) 26 fun w'=>∃(x:Nat->Int),AS w' w.heap.size 0 (AK .i64 x 0 94)/\CB 60 #[Value.agg (List.toArray (AK .i64 x 0 94))] w' fun b w'=>Wif (!b) (K (.tuple #[pt none,vi 2]) w') (∃(x:Nat->Int),AS w' w.heap.size 0 (AK .i64 x 0 94)/\CI 172 #[Value.agg (List.toArray (AK .i64 x 0 94))] w' fun n w'=>Dr w' fun g=>∃(x:Nat->Int),AS g w.heap.size 0 (AK .i64 x 0 94)/\Wif (I6 1 (wrap .i64 (n*256)) (wrap .i64 (n*256))) (AW g (List.toArray (List.replicate (Int.toNat (wrap .i64 (n*256))) (vu 0))) 5 fun w'=>(AS w' w.heap.size 0 (AK .i64 x 0 94)/\True)/\AW w' #[vu 1,vi 0,vi 0,vi 0,vi 0] 86 fun d=>(AS d w.heap.size 0 (AK .i64 x 0 94)/\True)/\CS 173 #[sl (aD w'.heap.size) 1 1,vi n] d fun a l c w'=>(AS w' w.heap.size 0 (AK .i64 x 0 94)/\True)/\AW w' (List.toArray (AK .i64 x 0 94++[sl (aD g.heap.size) (Int.toNat (wrap .i64 (n*256))) (Int.toNat (wrap .i64 (n*256))),sl a l c])) 163 fun f=>K (.tuple #[ptr w'.heap.size,vi 0]) f) False/\AW g #[vu 1,vi 0,vi 0,vi 0,vi 0] 86 fun w'=>(AS w' w.heap.size 0 (AK .i64 x 0 94)/\True)/\Wif (I6 1 (wrap .i64 (n*256)) (wrap .i64 (n*256))) (AW w' (List.toArray (List.replicate (Int.toNat (wrap .i64 (n*256))) (vu 0))) 5 fun d=>(AS d w.heap.size 0 (AK .i64 x 0 94)/\True)/\Calls prog 173 #[sl (aD g.heap.size) 1 1,vi n] d fun(e:Ending) (f:WD)=>∃(a:OA) (l c:Nat),e=rT (sl a l c)/\(AS f w.heap.size 0 (AK .i64 x 0 94)/\True)/\AW f (List.toArray (AK .i64 x 0 94++[sl (aD w'.heap.size) (Int.toNat (wrap .i64 (n*256))) (Int.toNat (wrap .i64 (n*256))),sl a l c])) 163 fun h=>K (.tuple #[ptr f.heap.size,vi 0]) h) False/\CS 173 #[sl (aD g.heap.size) 1 1,vi n] w' fun a l c w'=>(AS w' w.heap.size 0 (AK .i64 x 0 94)/\True)/\Wif (I6 1 (wrap .i64 (n*256)) (wrap .i64 (n*256))) (AW w' (List.toArray (List.replicate (Int.toNat (wrap .i64 (n*256))) (vu 0))) 5 fun d=>(AS d w.heap.size 0 (AK .i64 x 0 94)/\True)/\AW d (List.toArray (AK .i64 x 0 94++[sl (aD w'.heap.size) (Int.toNat (wrap .i64 (n*256))) (Int.toNat (wrap .i64 (n*256))),sl a l c])) 163 fun f=>K (.tuple #[ptr d.heap.size,vi 0]) f) False))):Ret 61 #[Value.agg (List.toArray (AK .i64 c0 0 94))] w K:=vcA L9 2 [] func61 h
theorem vc63(AP:Int)(w:WD)(K:KV)(h:Q (Wif (I6 256 (if 1024<if 0>AP then 0 else AP then 1024 else if 0>AP then 0 else AP) (if 1024<if 0>AP then 0 else AP then 1024 else if 0>AP then 0 else AP)) (AW w (DK (List.toArray (List.replicate 256 (vu 0))) 256 (Int.toNat (if 1024<if 0>AP then 0 else AP then 1024 else if 0>AP then 0 else AP))) 272 fun w'=>AW w' #[sl (aD w.heap.size) (Int.toNat (if 1024<if 0>AP then 0 else AP then 1024 else if 0>AP then 0 else AP)) (Int.toNat (if 1024<if 0>AP then 0 else AP then 1024 else if 0>AP then 0 else AP)),bool true] 281 fun a=>K (ptr w'.heap.size) a) False)):Ret 63 #[vi AP] w K:=vcA L9 2 [] func63 h
theorem vc64(n:Int)(w:WD)(K:KV)(h:Q (AW w (List.toArray ([vi (if 64<if 0>n then 0 else n then 64 else if 0>n then 0 else n)]++(List.replicate 64 (vi 0)++[bool true]))) 284 fun w'=>K (ptr w.heap.size) w')):Ret 64 #[vi n] w K:=vcA L9 2 [] func64 h
theorem vc65(frames:Int)(w:WD)(K:KV)(h:Q (Wif (I6 16 (if 1024<if 0>frames then 0 else frames then 1024 else if 0>frames then 0 else frames) (if 1024<if 0>frames then 0 else frames then 1024 else if 0>frames then 0 else frames)) (AW w (DK #[vi 0,vi 0] 2 (Int.toNat (if 1024<if 0>frames then 0 else frames then 1024 else if 0>frames then 0 else frames))) 308 fun w'=>∀a,a=w'.alloc (.map #[] 0)->AW a #[sl (aD w.heap.size) (Int.toNat (if 1024<if 0>frames then 0 else frames then 1024 else if 0>frames then 0 else frames)) (Int.toNat (if 1024<if 0>frames then 0 else frames then 1024 else if 0>frames then 0 else frames)),Value.map (some w'.heap.size)] 288 fun b=>K (ptr a.heap.size) b) False)):Ret 65 #[vi frames] w K:=vcA L9 2 [] func65 h
theorem vc67(n:Int)(w:WD)(K:KV)(h:Q (Wif (I6 16 (if 1024<if 0>n then 0 else n then 1024 else if 0>n then 0 else n) (if 1024<if 0>n then 0 else n then 1024 else if 0>n then 0 else n)) (AW w (DK #[vi 0,vi 0] 2 (Int.toNat (if 1024<if 0>n then 0 else n then 1024 else if 0>n then 0 else n))) 263 fun w'=>AW w' #[sl (aD w.heap.size) (Int.toNat (if 1024<if 0>n then 0 else n then 1024 else if 0>n then 0 else n)) (Int.toNat (if 1024<if 0>n then 0 else n then 1024 else if 0>n then 0 else n)),bool true] 266 fun a=>K (ptr w'.heap.size) a) False)):Ret 67 #[vi n] w K:=vcA L9 2 [] func67 h
def vcP68(n:Int)(make:Value)(w:WD)(K:KV):Prop:=∃(I:OA->Nat->Nat->Int->WD->Nat->Prop),(∃(n:Nat),I none 0 0 0 w n)/\∀(a:OA) (l c:Nat) (b:Int) (w':WD) (f:Nat),I a l c b w' f->Wif (decide (b<n)) (AM prog make [vi b] w' fun e w'=>∃(p:OA),e=rT (.pointer p)/\AW w' #[pt p] 174 fun i=>∃(g:OA) (h c_1:Nat) (d:WD),BF prog #[43,43] 43 (sl a l c) (sl (aD w'.heap.size) 1 1) (sl g h c_1) i d/\Lt f fun m=>I g h c_1 (wrap .i64 (b+1)) d m) (K (sl a l c) w')
theorem vc68(n:Int)(make:Value)(w:WD)(K:KV)(h:vcP68 n make w K):Ret 68 #[vi n,make] w K:=vcA [] 2 [2000011] func68 h
def vcP70(w:WD)(K:KV):Prop:=∀w',w'=w.alloc (.map #[] 0)->AW w' #[sl none 0 0,Value.map (some w.heap.size)] 291 fun a=>K (ptr w'.heap.size) a
theorem vc70(w:WD)(K:KV)(h:vcP70  w K):Ret 70 #[] w K:=vcA L9 2 [] func70 h
def vcP71(n:Int)(make:Value)(w:WD)(K:KV):Prop:=∃(I:OA->Nat->Nat->Int->WD->Nat->Prop),(∃(n:Nat),I none 0 0 0 w n)/\∀(a:OA) (l c:Nat) (b:Int) (w':WD) (f:Nat),I a l c b w' f->Wif (decide (b<n)) (AM prog make [vi b] w' fun e w'=>∃(g:OA) (h c_1:Nat),e=rT (sl g h c_1)/\AW w' #[sl g h c_1] 178 fun k=>∃(i:OA) (j c_2:Nat) (d:WD),BF prog #[44,44] 44 (sl a l c) (sl (aD w'.heap.size) 1 1) (sl i j c_2) k d/\Lt f fun m=>I i j c_2 (wrap .i64 (b+1)) d m) (K (sl a l c) w')
theorem vc71(n:Int)(make:Value)(w:WD)(K:KV)(h:vcP71 n make w K):Ret 71 #[vi n,make] w K:=vcA L9 2 [2000011] func71 h
def vcP73(n:Int)(make:Value)(w:WD)(K:KV):Prop:=∃(I:OA->Nat->Nat->Int->WD->Nat->Prop),(∃(n:Nat),I none 0 0 0 w n)/\∀(a:OA) (l c:Nat) (b:Int) (w':WD) (f:Nat),I a l c b w' f->Wif (decide (b<n)) (AM prog make [vi b] w' fun e w'=>∃(p:OA),e=rT (.pointer p)/\AW w' #[pt p] 180 fun i=>∃(g:OA) (h c_1:Nat) (d:WD),BF prog #[178,178] 178 (sl a l c) (sl (aD w'.heap.size) 1 1) (sl g h c_1) i d/\Lt f fun m=>I g h c_1 (wrap .i64 (b+1)) d m) (K (sl a l c) w')
theorem vc73(n:Int)(make:Value)(w:WD)(K:KV)(h:vcP73 n make w K):Ret 73 #[vi n,make] w K:=vcA L9 2 [2000011] func73 h
theorem vc75(size:Int)(w:WD)(K:KV)(h:Q (AW w (List.toArray (List.replicate 256 (vu 0))) 5 fun w'=>Calls prog 175 #[sl (aD w.heap.size) 256 256,vi size,vi 0] w' fun e w'=>∃(p:OA) (n:Int),e=rT (.tuple #[pt p,vi n])/\Wif (n != 0) (K (.tuple #[pt none,vi n]) w') (∀a,a=w'.alloc (.map #[] 0)->AW a #[vi size,vi 0,Value.map (some w'.heap.size)] 297 fun b=>K (.tuple #[ptr a.heap.size,vi 0]) b))):Ret 75 #[vi size] w K:=vcA L9 2 [] func75 h
def vcP76(n:Int)(make:Value)(w:WD)(K:KV):Prop:=∃(I:OA->Nat->Nat->Int->WD->Nat->Prop),(∃(n:Nat),I none 0 0 0 w n)/\∀(a:OA) (l c:Nat) (b:Int) (w':WD) (f:Nat),I a l c b w' f->Wif (decide (b<n)) (AM prog make [vi b] w' fun e w'=>∃(g:OA) (h c_1:Nat),e=rT (sl g h c_1)/\AW w' #[sl g h c_1] 186 fun k=>∃(i:OA) (j c_2:Nat) (d:WD),BF prog #[45,45] 45 (sl a l c) (sl (aD w'.heap.size) 1 1) (sl i j c_2) k d/\Lt f fun m=>I i j c_2 (wrap .i64 (b+1)) d m) (K (sl a l c) w')
theorem vc76(n:Int)(make:Value)(w:WD)(K:KV)(h:vcP76 n make w K):Ret 76 #[vi n,make] w K:=vcA L9 2 [2000011] func76 h
def vcP78(n:Int)(make:Value)(w:WD)(K:KV):Prop:=∃(I:OA->Nat->Nat->Int->WD->Nat->Prop),(∃(n:Nat),I none 0 0 0 w n)/\∀(a:OA) (l c:Nat) (b:Int) (w':WD) (f:Nat),I a l c b w' f->Wif (decide (b<n)) (AM prog make [vi b] w' fun e w'=>∃(p:OA),e=rT (.pointer p)/\AW w' #[pt p] 188 fun i=>∃(g:OA) (h c_1:Nat) (d:WD),BF prog #[186,186] 186 (sl a l c) (sl (aD w'.heap.size) 1 1) (sl g h c_1) i d/\Lt f fun m=>I g h c_1 (wrap .i64 (b+1)) d m) (K (sl a l c) w')
theorem vc78(n:Int)(make:Value)(w:WD)(K:KV)(h:vcP78 n make w K):Ret 78 #[vi n,make] w K:=vcA L9 2 [2000011] func78 h
theorem vc80(rounds:Int)(w:WD)(K:KV)(h:Q (AW w #[vi (if 32<if 1>rounds then 1 else rounds then 32 else if 1>rounds then 1 else rounds),sl none 0 0,sl none 0 0] 299 fun w'=>K (ptr w.heap.size) w')):Ret 80 #[vi rounds] w K:=vcA L9 2 [] func80 h
def vcP81(n:Int)(make:Value)(w:WD)(K:KV):Prop:=∃(I:OA->Nat->Nat->Int->WD->Nat->Prop),(∃(n:Nat),I none 0 0 0 w n)/\∀(a:OA) (l c:Nat) (b:Int) (w':WD) (f:Nat),I a l c b w' f->Wif (decide (b<n)) (AM prog make [vi b] w' fun e w'=>∃(g:OA) (h c_1:Nat),e=rT (sl g h c_1)/\AW w' #[sl g h c_1] 192 fun k=>∃(i:OA) (j c_2:Nat) (d:WD),BF prog #[46,46] 46 (sl a l c) (sl (aD w'.heap.size) 1 1) (sl i j c_2) k d/\Lt f fun m=>I i j c_2 (wrap .i64 (b+1)) d m) (K (sl a l c) w')
theorem vc81(n:Int)(make:Value)(w:WD)(K:KV)(h:vcP81 n make w K):Ret 81 #[vi n,make] w K:=vcA L9 2 [2000011] func81 h
def vcP83(n:Int)(make:Value)(w:WD)(K:KV):Prop:=∃(I:OA->Nat->Nat->Int->WD->Nat->Prop),(∃(n:Nat),I none 0 0 0 w n)/\∀(a:OA) (l c:Nat) (b:Int) (w':WD) (f:Nat),I a l c b w' f->Wif (decide (b<n)) (AM prog make [vi b] w' fun e w'=>∃(p:OA),e=rT (.pointer p)/\AW w' #[pt p] 194 fun i=>∃(g:OA) (h c_1:Nat) (d:WD),BF prog #[192,192] 192 (sl a l c) (sl (aD w'.heap.size) 1 1) (sl g h c_1) i d/\Lt f fun m=>I g h c_1 (wrap .i64 (b+1)) d m) (K (sl a l c) w')
theorem vc83(n:Int)(make:Value)(w:WD)(K:KV)(h:vcP83 n make w K):Ret 83 #[vi n,make] w K:=vcA L9 2 [2000011] func83 h
theorem vc85(rounds:Int)(w:WD)(K:KV)(h:Q (AW w #[vi (if 32<if 1>rounds then 1 else rounds then 32 else if 1>rounds then 1 else rounds),sl none 0 0,sl none 0 0] 302 fun w'=>K (ptr w.heap.size) w')):Ret 85 #[vi rounds] w K:=vcA L9 2 [] func85 h
def vcP86(n:Int)(make:Value)(w:WD)(K:KV):Prop:=∃(I:OA->Nat->Nat->Int->WD->Nat->Prop),(∃(n:Nat),I none 0 0 0 w n)/\∀(a:OA) (l c:Nat) (b:Int) (w':WD) (f:Nat),I a l c b w' f->Wif (decide (b<n)) (AM prog make [vi b] w' fun e w'=>∃(n:Int),e=rT (.int .u64 n)/\AW w' #[Value.int .u64 n] 76 fun i=>∃(g:OA) (h c_1:Nat) (d:WD),BF prog #[47,47] 47 (sl a l c) (sl (aD w'.heap.size) 1 1) (sl g h c_1) i d/\Lt f fun m=>I g h c_1 (wrap .i64 (b+1)) d m) (K (sl a l c) w')
theorem vc86(n:Int)(make:Value)(w:WD)(K:KV)(h:vcP86 n make w K):Ret 86 #[vi n,make] w K:=vcA L9 2 [2000011] func86 h
def vcP88(n:Int)(make:Value)(w:WD)(K:KV):Prop:=∃(I:OA->Nat->Nat->Int->WD->Nat->Prop),(∃(n:Nat),I none 0 0 0 w n)/\∀(a:OA) (l c:Nat) (b:Int) (w':WD) (f:Nat),I a l c b w' f->Wif (decide (b<n)) (AM prog make [vi b] w' fun e w'=>∃(n:Int),e=rT (vi n)/\AW w' #[vi n] 3 fun i=>∃(g:OA) (h c_1:Nat) (d:WD),BF prog #[27,27] 27 (sl a l c) (sl (aD w'.heap.size) 1 1) (sl g h c_1) i d/\Lt f fun m=>I g h c_1 (wrap .i64 (b+1)) d m) (K (sl a l c) w')
theorem vc88(n:Int)(make:Value)(w:WD)(K:KV)(h:vcP88 n make w K):Ret 88 #[vi n,make] w K:=vcA L9 2 [2000011] func88 h
def vcP127(n:Int)(make:Value)(w:WD)(K:KV):Prop:=∃(I:OA->Nat->Nat->Int->WD->Nat->Prop),(∃(n:Nat),I none 0 0 0 w n)/\∀(a:OA) (l c:Nat) (b:Int) (w':WD) (f:Nat),I a l c b w' f->Wif (decide (b<n)) (AM prog make [vi b] w' fun e w'=>∃(n g h i j:Int),e=rT (.agg #[vu n,vi g,vi h,vi i,vi j])/\AW w' #[vu n,vi g,vi h,vi i,vi j] 86 fun p=>∃(k:OA) (o c_1:Nat) (d:WD),BF prog #[130,130] 130 (sl a l c) (sl (aD w'.heap.size) 1 1) (sl k o c_1) p d/\Lt f fun m=>I k o c_1 (wrap .i64 (b+1)) d m) (K (sl a l c) w')
theorem vc127(n:Int)(make:Value)(w:WD)(K:KV)(h:vcP127 n make w K):Ret 127 #[vi n,make] w K:=vcA L9 2 [2000011] func127 h
def vcP131(n:Int)(make:Value)(w:WD)(K:KV):Prop:=∃(I:OA->Nat->Nat->Int->WD->Nat->Prop),(∃(n:Nat),I none 0 0 0 w n)/\∀(a:OA) (l c:Nat) (b:Int) (w':WD) (f:Nat),I a l c b w' f->Wif (decide (b<n)) (AM prog make [vi b] w' fun e w'=>∃(g:OA) (h c_1:Nat),e=rT (sl g h c_1)/\AW w' #[sl g h c_1] 27 fun k=>∃(i:OA) (j c_2:Nat) (d:WD),BF prog #[50,50] 50 (sl a l c) (sl (aD w'.heap.size) 1 1) (sl i j c_2) k d/\Lt f fun m=>I i j c_2 (wrap .i64 (b+1)) d m) (K (sl a l c) w')
theorem vc131(n:Int)(make:Value)(w:WD)(K:KV)(h:vcP131 n make w K):Ret 131 #[vi n,make] w K:=vcA L9 2 [2000011] func131 h
def vcP134(n:Int)(make:Value)(w:WD)(K:KV):Prop:=∃(I:OA->Nat->Nat->Int->WD->Nat->Prop),(∃(n:Nat),I none 0 0 0 w n)/\∀(a:OA) (l c:Nat) (b:Int) (w':WD) (f:Nat),I a l c b w' f->Wif (decide (b<n)) (AM prog make [vi b] w' fun e w'=>∃(g:OA) (h c_1:Nat),e=rT (sl g h c_1)/\AW w' #[sl g h c_1] 239 fun k=>∃(i:OA) (j c_2:Nat) (d:WD),BF prog #[51,51] 51 (sl a l c) (sl (aD w'.heap.size) 1 1) (sl i j c_2) k d/\Lt f fun m=>I i j c_2 (wrap .i64 (b+1)) d m) (K (sl a l c) w')
theorem vc134(n:Int)(make:Value)(w:WD)(K:KV)(h:vcP134 n make w K):Ret 134 #[vi n,make] w K:=vcA L9 2 [2000011] func134 h
def vcP144(n:Int)(make:Value)(w:WD)(K:KV):Prop:=∃(I:OA->Nat->Nat->Int->WD->Nat->Prop),(∃(n:Nat),I none 0 0 0 w n)/\∀(a:OA) (l c:Nat) (b:Int) (w':WD) (f:Nat),I a l c b w' f->Wif (decide (b<n)) (AM prog make [vi b] w' fun e w'=>∃(g:OA) (h c_1:Nat),e=rT (sl g h c_1)/\AW w' #[sl g h c_1] 51 fun k=>∃(i:OA) (j c_2:Nat) (d:WD),BF prog #[135,135] 135 (sl a l c) (sl (aD w'.heap.size) 1 1) (sl i j c_2) k d/\Lt f fun m=>I i j c_2 (wrap .i64 (b+1)) d m) (K (sl a l c) w')
theorem vc144(n:Int)(make:Value)(w:WD)(K:KV)(h:vcP144 n make w K):Ret 144 #[vi n,make] w K:=vcA L9 2 [2000011] func144 h
theorem vc172(c0:Nat->Int)(w:WD)(K:KV)(h:Q (AW w (List.toArray (AK .i64 c0 0 94)) 26 fun w'=>∃(x:Nat->Int),AS w' w.heap.size 0 (AK .i64 x 0 94)/\CB 60 #[Value.agg (List.toArray (AK .i64 x 0 94))] w' fun b w'=>Wif (!b) (K (vi 0) w') (∃(x:Nat->Int),AS w' w.heap.size 18 (AK .i64 x 0 8)/\∃(I:Int->Int->WD->Nat->Prop),(∃(n:Nat),I 0 0 w' n)/\∀(n a:Int) (w':WD) (c:Nat),I n a w' c->Wif (decide (a<8)) (Wn a 8 (∃(d:Int),[vi (x 0),vi (x 1),vi (x 2),vi (x 3),vi (x 4),vi (x 5),vi (x 6),vi (x 7)][Int.toNat a*1]? = some (.int .i64 d)/\Lt c fun m=>I (wrap .i64 (n+d)) (wrap .i64 (a+1)) w' m)) (K (vi n) w')))):Ret 172 #[Value.agg (List.toArray (AK .i64 c0 0 94))] w K:=vcA L9 2 [] func172 h
theorem vc173(x:OA)(xL xC:Nat)(count:Int)(w:WD)(K:KV)(h:Q (Wif (decide (count<0)) False (Calls prog 229 #[Value.int .u64 (wrap .u64 (↑xL:Int)),Value.int .u64 (wrap .u64 count)] w fun e w'=>∃(n a:Int),e=rT (.tuple #[Value.int .u64 n,Value.int .u64 a])/\Wif (decide (n>0)||decide (a>9223372036854775807)) False (Wif (I6 40 (wrap .i64 a) (wrap .i64 a)) (AW w' (DK #[vu 0,vi 0,vi 0,vi 0,vi 0] 5 (Int.toNat (wrap .i64 a))) 86 fun h=>∃(n:Int) (d:WD),PM prog #[130,130] 3 (sl (aD w'.heap.size) (Int.toNat (wrap .i64 a)) (Int.toNat (wrap .i64 a))) (sl x xL xC) (vi n) h d/\∃(I:Int->WD->Nat->Prop),(∃(c:Nat),I n d c)/\∀(n:Int) (b:WD) (c:Nat),I n b c->Wif (decide (n<(↑(Int.toNat (wrap .i64 a)):Int))) (Dr b fun i=>Wif (CN n (↑(Int.toNat (wrap .i64 a)):Int) (↑(Int.toNat (wrap .i64 a)):Int)) (Wif (CN 0 n (↑(Int.toNat (wrap .i64 a)):Int)) (∃(g:Int) (f:WD),PM prog #[130,130] 3 (sl (BJ (aD w'.heap.size) (Int.toNat (wrap .i64 a)) (Int.toNat n) 5) (Int.toNat (wrap .i64 a)-Int.toNat n) (Int.toNat (wrap .i64 a)-Int.toNat n)) (sl (aD w'.heap.size) (Int.toNat n) (Int.toNat (wrap .i64 a))) (vi g) i f/\Lt c fun m=>I (wrap .i64 (n+g)) f m) False) False) (K (sl (aD w'.heap.size) (Int.toNat (wrap .i64 a)) (Int.toNat (wrap .i64 a))) b)) False)))):Ret 173 #[sl x xL xC,vi count] w K:=vcA L9 2 [] func173 h
theorem vc175(b:OA)(bL bC:Nat)(size colour:Int)(w:WD)(K:KV)(h:Q (gIf (size != 0) (((↑bL:Int)!=256||decide (size<8)||decide (size>128)||Int.tmod size 8 != 0||decide (colour<0)||Int.tmod colour 8 != 0)=false) (Wif ((↑bL:Int)!=256||decide (size<8)||decide (size>128)||Int.tmod size 8 != 0||decide (colour<0)||Int.tmod colour 8 != 0||decide (colour>Int.tmod 256 size)) (K (.tuple #[pt none,vi 2]) w) (Wif (size != 0) (AW w (List.toArray ([sl b bL bC,vi size,vi colour,vi (wrap .i64 (Int.tdiv (wrap .i64 (256-colour)) size)),vu 255,vi 0]++(List.replicate 32 (bool false)++List.replicate 32 (Value.int .u64 0)))) 355 fun w'=>RI w' w.heap.size 3 fun x=>∃(I:Int->WD->Nat->Prop),(∃(n:Nat),I (wrap .i64 (x-1)) w' n)/\∀(n:Int) (w':WD) (a:Nat),I n w' a->Wif (decide (n>=0)) (C0 230 #[ptr w.heap.size,vi n] w' fun w'=>Lt a fun m=>I (wrap .i64 (n-1)) w' m) (K (.tuple #[ptr w.heap.size,vi 0]) w')) False)))):Ret 175 #[sl b bL bC,vi size,vi colour] w K:=vcA L9 2 [] func175 h
theorem vc229(x y:Int)(w:WD)(K:KV)(h:Q (Calls prog 269 #[Value.int .u64 x,Value.int .u64 y] w fun e w'=>∃(n a:Int),e=rT (.tuple #[Value.int .u64 n,Value.int .u64 a])/\K (.tuple #[Value.int .u64 n,Value.int .u64 a]) w')):Ret 229 #[Value.int .u64 x,Value.int .u64 y] w K:=vcA L7 2 [] func229 h
theorem vc230(s:OA)(i:Int)(w:WD)(K:KV)(h:Q (Dr w fun a=>Wp s (Rs a s 0 fun x f h=>Wp s (Ri a s 2 fun c=>Wp s (Ri a s 1 fun d=>Wp s (Re a s 4 fun g=>Wp x (Wn (wrap .i64 (c+wrap .i64 (i*d))) f (Sw a (pb x) (po x+Int.toNat (wrap .i64 (c+wrap .i64 (i*d)))*1) (vu g) fun w'=>Wp s (Sw w' (pb s) (po s+4) (vu (wrap .u8 i)) fun b=>Wp s (Ri b s 5 fun x=>Wp s (Sw b (pb s) (po s+5) (vi (wrap .i64 (x+1))) fun w'=>K (.tuple #[]) w'))))))))))):Ret 230 #[pt s,vi i] w K:=vcA L7 2 [] func230 h
theorem vc269(x y:Int)(w:WD)(K:KV)(h:Q (K (.tuple #[Value.int .u64 (wrap .u64 (wrap .u64 (wrap .u64 (Int.fdiv x 4294967296*Int.fdiv y 4294967296)+Int.fdiv (wrap .u64 (wrap .u64 (Int.fdiv x 4294967296*BW BinOp.and IntKind.u64 y 4294967295)+Int.fdiv (wrap .u64 (BW BinOp.and IntKind.u64 x 4294967295*BW BinOp.and IntKind.u64 y 4294967295)) 4294967296)) 4294967296)+Int.fdiv (wrap .u64 (BW BinOp.and IntKind.u64 (wrap .u64 (wrap .u64 (Int.fdiv x 4294967296*BW BinOp.and IntKind.u64 y 4294967295)+Int.fdiv (wrap .u64 (BW BinOp.and IntKind.u64 x 4294967295*BW BinOp.and IntKind.u64 y 4294967295)) 4294967296)) 4294967295+wrap .u64 (BW BinOp.and IntKind.u64 x 4294967295*Int.fdiv y 4294967296))) 4294967296)),Value.int .u64 (wrap .u64 (x*y))]) w)):Ret 269 #[Value.int .u64 x,Value.int .u64 y] w K:=vcA L7 2 [] func269 h
end Go.Proofs.YtdgbechegbmpcaaGreatDoor
namespace Go.Eng
open Go
structure At(F:NP)(φ:WD->Prop)(w:WD):Prop where
 lt:∀x,F x->x<w.heap.size
 go:∀w',Kept (fun b=>¬F b) w w'->φ w'
theorem At.now{F:NP}{φ:WD->Prop}{w:WD}(h:At F φ w):φ w:=h.go w kr
theorem At.kx{F X:NP}{φ:WD->Prop}{w w':WD}(h:At F φ w)(k:Kept X w w')(hx:∀x,X x->F x->False):At F φ w':=
 ⟨fun x hx=>nll (h.lt x hx) k.sz,fun w'' k2=>h.go w'' ((k.mono fun b _ hb hf=>hx b hb hf).trans k2 fun _ _ h=>h)⟩
theorem At.mono{F G:NP}{φ:WD->Prop}{w:WD}(h:At F φ w)(hf:∀x,F x->G x)(hg:∀x,G x->x<w.heap.size):At G φ w:=
 ⟨hg,fun w' k=>h.go w' (k.mono fun b _ hb hx=>hb (hf b hx))⟩
theorem At.imp{F:NP}{φ ψ:WD->Prop}{w:WD}(h:At F φ w)(hi:∀w',φ w'->ψ w'):At F ψ w:=⟨h.lt,fun w' k=>hi w' (h.go w' k)⟩
theorem At.and{F G:NP}{φ ψ:WD->Prop}{w:WD}(h:At F φ w)(h2:At G ψ w):At (fun x=>F x\/G x) (fun w=>φ w/\ψ w) w:=
 ⟨fun x hx=>hx.elim (h.lt x) (h2.lt x),fun w' k=>⟨h.go w' (k.mono fun b _ hb hx=>hb (.inl hx)),h2.go w' (k.mono fun b _ hb hx=>hb (.inr hx))⟩⟩
def rng(w w':WD):NP:=fun x=>w.heap.size<=x/\x<w'.heap.size
theorem FH{s:Nat}{n:Int}(h0:0<=n:=by omega)(h:(s:Int)*n<=281474976710656:=by omega)(h2:n<=9223372036854775807:=by omega):I6 s n n=true:=by simp [I6];omega
structure ElT(P:Program)(S T:TypeId)(s:Nat):Prop where
 sl:P.underlying S=some (.slice T)
 ex:∃(i:TypeInfo) (z:Value),P.info? T=some i/\i.zero=some z/\i.size=s/\z.cells.size=s/\i.bytes<=1000
 pos:0<s
structure HD(P:Program)(mk:Value)(n s:Nat)(w0:WD)(R:Ending->List Value->Prop)(J:(NP)->Nat->List Value->WD->Prop):Prop where
 st:∀F i vs w w' X,J F i vs w->Kept X w w'->(∀x,X x->F x->False)->J F i vs w'
 run:∀F i vs w,i<n->J F i vs w->Kept AB w0 w->(∀x,F x->w0.heap.size<=x/\x<w.heap.size)->AM P mk [.int .i64 i] w fun e w'=>∃cs:List Value,R e cs/\cs.length=s/\(∀u∈cs,u.oneCell'=true)/\Kept AB w w'/\J (fun x=>F x\/rng w w' x) (i+1) (vs++cs) w'
theorem AQ{P:Program}{v:Value}{args:List Value}{w:WD}{R R':Ending->WD->Prop}(h:AM P v args w R)(hr:∀e w',R e w'->R' e w'):AM P v args w R':=by
 obtain⟨f,a,c,h1,h2,h3⟩:=h;exact⟨f,a,c,h1,h2,h3.mono hr⟩
def SevP(P:Program)(S T:TypeId)(R:Ending->List Value->Prop)(n:Int)(mk:Value)(w:WD)(K:Value->WD->Prop):Prop:=
 ∃(I:Option Addr->Nat->Nat->Int->WD->Nat->Prop),(∃(n:Nat),I none 0 0 0 w n)/\
  ∀(a:Option Addr) (l c:Nat) (n_1:Int) (w':WD) (n_2:Nat),I a l c n_1 w' n_2->
   Wif (decide (n_1<n))
    (AM P mk [Value.int IntKind.i64 n_1] w' fun(e:Ending) (w':WD)=>∃cs:List Value,R e cs/\
     ∀(w1:WD),w1=World.alloc w' (Obj.cells cs.toArray T)->∃(a_1:Option Addr) (l_1 c_1:Nat) (w2:WD),
      BF P #[S,S] S (Value.slice a l c) (Value.slice (some (Addr.mk (Array.size (World.heap w')) 0 none)) 1 1) (Value.slice a_1 l_1 c_1) w1 w2/\
       ∃(m:Nat),Nat.succ m<=n_2/\I a_1 l_1 c_1 (IntKind.wrap IntKind.i64 (n_1+1)) w2 m)
    (K (Value.slice a l c) w')
def NT(T:TypeId)(s:Nat)(J:(NP)->Nat->List Value->WD->Prop)(n:Nat)(w0:WD)(v:Value)(w':WD):Prop:=
 ∃(a:Option Addr) (c:Nat) (F:NP) (vs:List Value),v=.slice a n c/\Kept AB w0 w'/\w'.ownsRow w0.heap.size T s (.slice a n c) n vs/\J F n vs w'/\
  (∀x,F x->w0.heap.size<=x/\x<w'.heap.size)/\∀g,(Value.slice a n c).ownBlock=some g->¬F g
theorem FF{P:Program}{S T:TypeId}{s:Nat}(hT:ElT P S T s){R:Ending->List Value->Prop}{n:Nat}(hn:n<=1000000){mk:Value}{w0:WD}{J:(NP)->Nat->List Value->WD->Prop}(hm:HD P mk n s w0 R J)(h0:J (fun _=>False) 0 [] w0) :
 SevP P S T R n mk w0 (NT T s J n w0):=by
 obtain⟨i,z,hi,hz,hsz,hzs,hby⟩:=hT.ex;refine⟨fun a l c k w' m=>∃(q:Nat) (F:NP) (vs:List Value),k=q/\q=l/\q<=n/\m=n-q/\Kept AB w0 w'/\w'.ownsRow w0.heap.size T s (.slice a q c) q vs/\J F q vs w'/\
  (∀x,F x->w0.heap.size<=x/\x<w'.heap.size)/\∀g,(Value.slice a q c).ownBlock=some g->¬F g,
  ⟨n,0,fun _=>False,[],rfl,rfl,Nat.zero_le _,rfl,Kept.refl _ _,World.ownsRow_nil _ _ _ _,h0,fun x hx=>hx.elim,fun g _ hx=>hx⟩,?_⟩
 rintro a l c _ w1 _ ⟨q,F,vs,rfl,e0,hq,rfl,k1,row1,j1,f1,g1⟩;subst e0;refine AE (fun hc=>?_) (fun hc=>?_)
 ·have hqn:q<n:=by simp at hc;omega
  refine AQ (hm.run F q vs w1 hqn j1 k1 f1) ?_;rintro e w2 ⟨cs,hR,hlen,hone,k2,j2⟩;refine⟨cs,hR,fun w3 e3=>?_⟩;have k3:=kal e3;have row3:=AR row1 (k2.tr k3) (fun _ _ _ _=>id);have hs1:=k1.sz;have hs2:=k2.sz;have hs3:=k3.sz;obtain⟨a',l',c',w4,happ,rfl,row4,k4,hb4⟩:=J8 (P:=P) (t:=S) (e:=T) (i:=i) (z:=z) (size:=s) hT.sl hi hz hsz hzs hT.pos row3 (AD e3) (m:=1) (off:=0) (c:=1) (news:=cs) (by simp [List.take_of_length_le (Nat.le_of_eq hlen)]) (by omega) hone (by omega) hby (by omega);have f2:∀x,(F x\/rng w1 w2 x)->w0.heap.size<=x/\x<w2.heap.size:=fun x hx=>hx.elim (fun h=>⟨(f1 x h).1,by have:=(f1 x h).2;omega⟩) (fun h=>⟨by have:=h.1;omega,h.2⟩);have g2:∀g,(Value.slice a q c).ownBlock=some g->¬(F g\/rng w1 w2 g):=fun g hg hx=>hx.elim (g1 g hg) fun h=>by have:=(row1.lt g hg).2;have:=h.1;omega
  refine⟨a',_,c',w4,happ,n-(q+1),by omega,q+1,_,_,wzz,rfl,hqn,rfl,?_,row4,hm.st _ _ _ _ _ _ (hm.st _ _ _ _ _ _ j2 k3 fun _ e=>e.elim) k4 (fun x e hx=>g2 x e hx),fun x hx=>⟨(f2 x hx).1,?_⟩,fun g hg hx=>?_⟩
  ·exact((k1.tr k2).tr k3).trans k4 fun b hb e=>by have:=(row1.lt b e).1;omega
  ·have:=(f2 x hx).2;have:=k4.sz;omega
  ·rcases hb4 with e|e
   ·rw [e] at hg;exact g2 g hg hx
   ·have:=e g hg;have:=(f2 g hx).2;omega
 ·have:q=n:=by simp at hc;omega
  subst this;exact⟨a,c,F,vs,rfl,k1,row1,j1,f1,g1⟩
theorem DP{b:Bool}{x y x' y':Prop}(h:Wif b x y)(hx:x->x')(hy:y->y'):Wif b x' y':=by
 cases b
 ·exact hy h
 ·exact hx h
end Go.Eng
namespace Go.Proofs.YtdgbechegbmpcaaGreatDoor
open Go Go.Eng Go.Proofs.Tryz
def RPtr(e:Ending)(cs:List Value):Prop:=∃p:OA,e=.returned (.pointer p)/\cs=[.pointer p]
def RSl(e:Ending)(cs:List Value):Prop:=∃(a:OA) (l c:Nat),e=.returned (.slice a l c)/\cs=[.slice a l c]
def RU64(e:Ending)(cs:List Value):Prop:=∃x:Int,e=.returned (.int .u64 x)/\cs=[.int .u64 x]
def RI64(e:Ending)(cs:List Value):Prop:=∃x:Int,e=.returned (.int .i64 x)/\cs=[.int .i64 x]
def RMk(e:Ending)(cs:List Value):Prop:=∃x0 x1 x2 x3 x4:Int,e=.returned (.agg #[.int .u8 x0,.int .i64 x1,.int .i64 x2,.int .i64 x3,.int .i64 x4])/\cs=[.int .u8 x0,.int .i64 x1,.int .i64 x2,.int .i64 x3,.int .i64 x4]
theorem elT{S T:TypeId}{z:Value}{s:Nat}(hs:prog.underlying S=some (.slice T))(h:(prog.info? T).map (fun i=>(i.zero,i.size,decide (i.bytes<=1000)))=some (some z,s,true))(hz:z.cells.size=s)(h0:0<s):ElT prog S T s:=by
 cases hi:prog.info? T with
 | none=>rw [hi] at h;cases h
 | some i=>
  rw [hi] at h;simp at h;exact⟨hs,⟨i,z,hi,h.1,h.2.1,hz,h.2.2⟩,h0⟩
theorem elT39:ElT prog 43 174 1:=elT (z:=.pointer none) underlying43 (by kernel_rfl) rfl (by decide)
theorem sev39{n:Nat}(hn:n<=1000000){mk:Value}{w0:WD}{J:(NP)->Nat->List Value->WD->Prop}(hm:HD prog mk n 1 w0 RPtr J)(h0:J (fun _=>False) 0 [] w0) :
 Calls prog 68 #[.int .i64 n,mk] w0 fun e w'=>∃(a:OA) (c:Nat) (F:NP) (vs:List Value),e=.returned (.slice a n c)/\Kept AB w0 w'/\w'.ownsRow w0.heap.size 174 1 (.slice a n c) n vs/\J F n vs w'/\
  (∀x,F x->w0.heap.size<=x/\x<w'.heap.size)/\∀g,(Value.slice a n c).ownBlock=some g->¬F g:=by
 obtain⟨I,i0,i1⟩:=FF elT39 hn hm h0;have hv:vcP68 n mk w0 (NT 174 1 J n w0):=⟨I,i0,fun a l c k w' m hi=>DP (i1 a l c k w' m hi) (fun hc=>AQ hc fun e w2 ⟨cs,⟨p,he,hcs⟩,hx⟩=>⟨p,he,by subst hcs;exact hx⟩) id⟩;refine(vc68 n mk w0 _ hv).mono ?_;rintro e w' ⟨v,rfl,a,c,F,vs,rfl,h⟩;exact⟨a,c,F,vs,rfl,h⟩
theorem elT44:ElT prog 178 180 1:=elT (z:=.pointer none) underlying178 (by kernel_rfl) rfl (by decide)
theorem sev44{n:Nat}(hn:n<=1000000){mk:Value}{w0:WD}{J:(NP)->Nat->List Value->WD->Prop}(hm:HD prog mk n 1 w0 RPtr J)(h0:J (fun _=>False) 0 [] w0) :
 Calls prog 73 #[.int .i64 n,mk] w0 fun e w'=>∃(a:OA) (c:Nat) (F:NP) (vs:List Value),e=.returned (.slice a n c)/\Kept AB w0 w'/\w'.ownsRow w0.heap.size 180 1 (.slice a n c) n vs/\J F n vs w'/\
  (∀x,F x->w0.heap.size<=x/\x<w'.heap.size)/\∀g,(Value.slice a n c).ownBlock=some g->¬F g:=by
 obtain⟨I,i0,i1⟩:=FF elT44 hn hm h0;have hv:vcP73 n mk w0 (NT 180 1 J n w0):=⟨I,i0,fun a l c k w' m hi=>DP (i1 a l c k w' m hi) (fun hc=>AQ hc fun e w2 ⟨cs,⟨p,he,hcs⟩,hx⟩=>⟨p,he,by subst hcs;exact hx⟩) id⟩;refine(vc73 n mk w0 _ hv).mono ?_;rintro e w' ⟨v,rfl,a,c,F,vs,rfl,h⟩;exact⟨a,c,F,vs,rfl,h⟩
theorem elT49:ElT prog 186 188 1:=elT (z:=.pointer none) underlying186 (by kernel_rfl) rfl (by decide)
theorem sev49{n:Nat}(hn:n<=1000000){mk:Value}{w0:WD}{J:(NP)->Nat->List Value->WD->Prop}(hm:HD prog mk n 1 w0 RPtr J)(h0:J (fun _=>False) 0 [] w0) :
 Calls prog 78 #[.int .i64 n,mk] w0 fun e w'=>∃(a:OA) (c:Nat) (F:NP) (vs:List Value),e=.returned (.slice a n c)/\Kept AB w0 w'/\w'.ownsRow w0.heap.size 188 1 (.slice a n c) n vs/\J F n vs w'/\
  (∀x,F x->w0.heap.size<=x/\x<w'.heap.size)/\∀g,(Value.slice a n c).ownBlock=some g->¬F g:=by
 obtain⟨I,i0,i1⟩:=FF elT49 hn hm h0;have hv:vcP78 n mk w0 (NT 188 1 J n w0):=⟨I,i0,fun a l c k w' m hi=>DP (i1 a l c k w' m hi) (fun hc=>AQ hc fun e w2 ⟨cs,⟨p,he,hcs⟩,hx⟩=>⟨p,he,by subst hcs;exact hx⟩) id⟩;refine(vc78 n mk w0 _ hv).mono ?_;rintro e w' ⟨v,rfl,a,c,F,vs,rfl,h⟩;exact⟨a,c,F,vs,rfl,h⟩
theorem elT54:ElT prog 192 194 1:=elT (z:=.pointer none) underlying192 (by kernel_rfl) rfl (by decide)
theorem sev54{n:Nat}(hn:n<=1000000){mk:Value}{w0:WD}{J:(NP)->Nat->List Value->WD->Prop}(hm:HD prog mk n 1 w0 RPtr J)(h0:J (fun _=>False) 0 [] w0) :
 Calls prog 83 #[.int .i64 n,mk] w0 fun e w'=>∃(a:OA) (c:Nat) (F:NP) (vs:List Value),e=.returned (.slice a n c)/\Kept AB w0 w'/\w'.ownsRow w0.heap.size 194 1 (.slice a n c) n vs/\J F n vs w'/\
  (∀x,F x->w0.heap.size<=x/\x<w'.heap.size)/\∀g,(Value.slice a n c).ownBlock=some g->¬F g:=by
 obtain⟨I,i0,i1⟩:=FF elT54 hn hm h0;have hv:vcP83 n mk w0 (NT 194 1 J n w0):=⟨I,i0,fun a l c k w' m hi=>DP (i1 a l c k w' m hi) (fun hc=>AQ hc fun e w2 ⟨cs,⟨p,he,hcs⟩,hx⟩=>⟨p,he,by subst hcs;exact hx⟩) id⟩;refine(vc83 n mk w0 _ hv).mono ?_;rintro e w' ⟨v,rfl,a,c,F,vs,rfl,h⟩;exact⟨a,c,F,vs,rfl,h⟩
theorem elT42:ElT prog 44 178 1:=elT (z:=.slice none 0 0) underlying44 (by kernel_rfl) rfl (by decide)
theorem sev42{n:Nat}(hn:n<=1000000){mk:Value}{w0:WD}{J:(NP)->Nat->List Value->WD->Prop}(hm:HD prog mk n 1 w0 RSl J)(h0:J (fun _=>False) 0 [] w0) :
 Calls prog 71 #[.int .i64 n,mk] w0 fun e w'=>∃(a:OA) (c:Nat) (F:NP) (vs:List Value),e=.returned (.slice a n c)/\Kept AB w0 w'/\w'.ownsRow w0.heap.size 178 1 (.slice a n c) n vs/\J F n vs w'/\
  (∀x,F x->w0.heap.size<=x/\x<w'.heap.size)/\∀g,(Value.slice a n c).ownBlock=some g->¬F g:=by
 obtain⟨I,i0,i1⟩:=FF elT42 hn hm h0;have hv:vcP71 n mk w0 (NT 178 1 J n w0):=⟨I,i0,fun a l c k w' m hi=>DP (i1 a l c k w' m hi) (fun hc=>AQ hc fun e w2 ⟨cs,⟨a1,l1,c1,he,hcs⟩,hx⟩=>⟨a1,l1,c1,he,by subst hcs;exact hx⟩) id⟩;refine(vc71 n mk w0 _ hv).mono ?_;rintro e w' ⟨v,rfl,a,c,F,vs,rfl,h⟩;exact⟨a,c,F,vs,rfl,h⟩
theorem elT47:ElT prog 45 186 1:=elT (z:=.slice none 0 0) underlying45 (by kernel_rfl) rfl (by decide)
theorem sev47{n:Nat}(hn:n<=1000000){mk:Value}{w0:WD}{J:(NP)->Nat->List Value->WD->Prop}(hm:HD prog mk n 1 w0 RSl J)(h0:J (fun _=>False) 0 [] w0) :
 Calls prog 76 #[.int .i64 n,mk] w0 fun e w'=>∃(a:OA) (c:Nat) (F:NP) (vs:List Value),e=.returned (.slice a n c)/\Kept AB w0 w'/\w'.ownsRow w0.heap.size 186 1 (.slice a n c) n vs/\J F n vs w'/\
  (∀x,F x->w0.heap.size<=x/\x<w'.heap.size)/\∀g,(Value.slice a n c).ownBlock=some g->¬F g:=by
 obtain⟨I,i0,i1⟩:=FF elT47 hn hm h0;have hv:vcP76 n mk w0 (NT 186 1 J n w0):=⟨I,i0,fun a l c k w' m hi=>DP (i1 a l c k w' m hi) (fun hc=>AQ hc fun e w2 ⟨cs,⟨a1,l1,c1,he,hcs⟩,hx⟩=>⟨a1,l1,c1,he,by subst hcs;exact hx⟩) id⟩;refine(vc76 n mk w0 _ hv).mono ?_;rintro e w' ⟨v,rfl,a,c,F,vs,rfl,h⟩;exact⟨a,c,F,vs,rfl,h⟩
theorem elT52:ElT prog 46 192 1:=elT (z:=.slice none 0 0) underlying46 (by kernel_rfl) rfl (by decide)
theorem sev52{n:Nat}(hn:n<=1000000){mk:Value}{w0:WD}{J:(NP)->Nat->List Value->WD->Prop}(hm:HD prog mk n 1 w0 RSl J)(h0:J (fun _=>False) 0 [] w0) :
 Calls prog 81 #[.int .i64 n,mk] w0 fun e w'=>∃(a:OA) (c:Nat) (F:NP) (vs:List Value),e=.returned (.slice a n c)/\Kept AB w0 w'/\w'.ownsRow w0.heap.size 192 1 (.slice a n c) n vs/\J F n vs w'/\
  (∀x,F x->w0.heap.size<=x/\x<w'.heap.size)/\∀g,(Value.slice a n c).ownBlock=some g->¬F g:=by
 obtain⟨I,i0,i1⟩:=FF elT52 hn hm h0;have hv:vcP81 n mk w0 (NT 192 1 J n w0):=⟨I,i0,fun a l c k w' m hi=>DP (i1 a l c k w' m hi) (fun hc=>AQ hc fun e w2 ⟨cs,⟨a1,l1,c1,he,hcs⟩,hx⟩=>⟨a1,l1,c1,he,by subst hcs;exact hx⟩) id⟩;refine(vc81 n mk w0 _ hv).mono ?_;rintro e w' ⟨v,rfl,a,c,F,vs,rfl,h⟩;exact⟨a,c,F,vs,rfl,h⟩
theorem elT67:ElT prog 50 27 1:=elT (z:=.slice none 0 0) underlying50 (by kernel_rfl) rfl (by decide)
theorem sev67{n:Nat}(hn:n<=1000000){mk:Value}{w0:WD}{J:(NP)->Nat->List Value->WD->Prop}(hm:HD prog mk n 1 w0 RSl J)(h0:J (fun _=>False) 0 [] w0) :
 Calls prog 131 #[.int .i64 n,mk] w0 fun e w'=>∃(a:OA) (c:Nat) (F:NP) (vs:List Value),e=.returned (.slice a n c)/\Kept AB w0 w'/\w'.ownsRow w0.heap.size 27 1 (.slice a n c) n vs/\J F n vs w'/\
  (∀x,F x->w0.heap.size<=x/\x<w'.heap.size)/\∀g,(Value.slice a n c).ownBlock=some g->¬F g:=by
 obtain⟨I,i0,i1⟩:=FF elT67 hn hm h0;have hv:vcP131 n mk w0 (NT 27 1 J n w0):=⟨I,i0,fun a l c k w' m hi=>DP (i1 a l c k w' m hi) (fun hc=>AQ hc fun e w2 ⟨cs,⟨a1,l1,c1,he,hcs⟩,hx⟩=>⟨a1,l1,c1,he,by subst hcs;exact hx⟩) id⟩;refine(vc131 n mk w0 _ hv).mono ?_;rintro e w' ⟨v,rfl,a,c,F,vs,rfl,h⟩;exact⟨a,c,F,vs,rfl,h⟩
theorem elT70:ElT prog 51 239 1:=elT (z:=.slice none 0 0) underlying51 (by kernel_rfl) rfl (by decide)
theorem sev70{n:Nat}(hn:n<=1000000){mk:Value}{w0:WD}{J:(NP)->Nat->List Value->WD->Prop}(hm:HD prog mk n 1 w0 RSl J)(h0:J (fun _=>False) 0 [] w0) :
 Calls prog 134 #[.int .i64 n,mk] w0 fun e w'=>∃(a:OA) (c:Nat) (F:NP) (vs:List Value),e=.returned (.slice a n c)/\Kept AB w0 w'/\w'.ownsRow w0.heap.size 239 1 (.slice a n c) n vs/\J F n vs w'/\
  (∀x,F x->w0.heap.size<=x/\x<w'.heap.size)/\∀g,(Value.slice a n c).ownBlock=some g->¬F g:=by
 obtain⟨I,i0,i1⟩:=FF elT70 hn hm h0;have hv:vcP134 n mk w0 (NT 239 1 J n w0):=⟨I,i0,fun a l c k w' m hi=>DP (i1 a l c k w' m hi) (fun hc=>AQ hc fun e w2 ⟨cs,⟨a1,l1,c1,he,hcs⟩,hx⟩=>⟨a1,l1,c1,he,by subst hcs;exact hx⟩) id⟩;refine(vc134 n mk w0 _ hv).mono ?_;rintro e w' ⟨v,rfl,a,c,F,vs,rfl,h⟩;exact⟨a,c,F,vs,rfl,h⟩
theorem elT81:ElT prog 135 51 1:=elT (z:=.slice none 0 0) underlying135 (by kernel_rfl) rfl (by decide)
theorem sev81{n:Nat}(hn:n<=1000000){mk:Value}{w0:WD}{J:(NP)->Nat->List Value->WD->Prop}(hm:HD prog mk n 1 w0 RSl J)(h0:J (fun _=>False) 0 [] w0) :
 Calls prog 144 #[.int .i64 n,mk] w0 fun e w'=>∃(a:OA) (c:Nat) (F:NP) (vs:List Value),e=.returned (.slice a n c)/\Kept AB w0 w'/\w'.ownsRow w0.heap.size 51 1 (.slice a n c) n vs/\J F n vs w'/\
  (∀x,F x->w0.heap.size<=x/\x<w'.heap.size)/\∀g,(Value.slice a n c).ownBlock=some g->¬F g:=by
 obtain⟨I,i0,i1⟩:=FF elT81 hn hm h0;have hv:vcP144 n mk w0 (NT 51 1 J n w0):=⟨I,i0,fun a l c k w' m hi=>DP (i1 a l c k w' m hi) (fun hc=>AQ hc fun e w2 ⟨cs,⟨a1,l1,c1,he,hcs⟩,hx⟩=>⟨a1,l1,c1,he,by subst hcs;exact hx⟩) id⟩;refine(vc144 n mk w0 _ hv).mono ?_;rintro e w' ⟨v,rfl,a,c,F,vs,rfl,h⟩;exact⟨a,c,F,vs,rfl,h⟩
theorem elT57:ElT prog 47 76 1:=elT (z:=.int .u64 0) underlying47 (by kernel_rfl) rfl (by decide)
theorem sev57{n:Nat}(hn:n<=1000000){mk:Value}{w0:WD}{J:(NP)->Nat->List Value->WD->Prop}(hm:HD prog mk n 1 w0 RU64 J)(h0:J (fun _=>False) 0 [] w0) :
 Calls prog 86 #[.int .i64 n,mk] w0 fun e w'=>∃(a:OA) (c:Nat) (F:NP) (vs:List Value),e=.returned (.slice a n c)/\Kept AB w0 w'/\w'.ownsRow w0.heap.size 76 1 (.slice a n c) n vs/\J F n vs w'/\
  (∀x,F x->w0.heap.size<=x/\x<w'.heap.size)/\∀g,(Value.slice a n c).ownBlock=some g->¬F g:=by
 obtain⟨I,i0,i1⟩:=FF elT57 hn hm h0;have hv:vcP86 n mk w0 (NT 76 1 J n w0):=⟨I,i0,fun a l c k w' m hi=>DP (i1 a l c k w' m hi) (fun hc=>AQ hc fun e w2 ⟨cs,⟨x,he,hcs⟩,hx⟩=>⟨x,he,by subst hcs;exact hx⟩) id⟩;refine(vc86 n mk w0 _ hv).mono ?_;rintro e w' ⟨v,rfl,a,c,F,vs,rfl,h⟩;exact⟨a,c,F,vs,rfl,h⟩
theorem elT59:ElT prog 27 3 1:=elT (z:=.int .i64 0) underlying27 (by kernel_rfl) rfl (by decide)
theorem sev59{n:Nat}(hn:n<=1000000){mk:Value}{w0:WD}{J:(NP)->Nat->List Value->WD->Prop}(hm:HD prog mk n 1 w0 RI64 J)(h0:J (fun _=>False) 0 [] w0) :
 Calls prog 88 #[.int .i64 n,mk] w0 fun e w'=>∃(a:OA) (c:Nat) (F:NP) (vs:List Value),e=.returned (.slice a n c)/\Kept AB w0 w'/\w'.ownsRow w0.heap.size 3 1 (.slice a n c) n vs/\J F n vs w'/\
  (∀x,F x->w0.heap.size<=x/\x<w'.heap.size)/\∀g,(Value.slice a n c).ownBlock=some g->¬F g:=by
 obtain⟨I,i0,i1⟩:=FF elT59 hn hm h0;have hv:vcP88 n mk w0 (NT 3 1 J n w0):=⟨I,i0,fun a l c k w' m hi=>DP (i1 a l c k w' m hi) (fun hc=>AQ hc fun e w2 ⟨cs,⟨x,he,hcs⟩,hx⟩=>⟨x,he,by subst hcs;exact hx⟩) id⟩;refine(vc88 n mk w0 _ hv).mono ?_;rintro e w' ⟨v,rfl,a,c,F,vs,rfl,h⟩;exact⟨a,c,F,vs,rfl,h⟩
theorem elT62:ElT prog 130 86 5:=elT (z:=.agg #[.int .u8 0,.int .i64 0,.int .i64 0,.int .i64 0,.int .i64 0]) underlying130 (by kernel_rfl) rfl (by decide)
theorem sev62{n:Nat}(hn:n<=1000000){mk:Value}{w0:WD}{J:(NP)->Nat->List Value->WD->Prop}(hm:HD prog mk n 5 w0 RMk J)(h0:J (fun _=>False) 0 [] w0) :
 Calls prog 127 #[.int .i64 n,mk] w0 fun e w'=>∃(a:OA) (c:Nat) (F:NP) (vs:List Value),e=.returned (.slice a n c)/\Kept AB w0 w'/\w'.ownsRow w0.heap.size 86 5 (.slice a n c) n vs/\J F n vs w'/\
  (∀x,F x->w0.heap.size<=x/\x<w'.heap.size)/\∀g,(Value.slice a n c).ownBlock=some g->¬F g:=by
 obtain⟨I,i0,i1⟩:=FF elT62 hn hm h0;have hv:vcP127 n mk w0 (NT 86 5 J n w0):=⟨I,i0,fun a l c k w' m hi=>DP (i1 a l c k w' m hi) (fun hc=>AQ hc fun e w2 ⟨cs,⟨x0,x1,x2,x3,x4,he,hcs⟩,hx⟩=>⟨x0,x1,x2,x3,x4,he,by subst hcs;exact hx⟩) id⟩;refine(vc127 n mk w0 _ hv).mono ?_;rintro e w' ⟨v,rfl,a,c,F,vs,rfl,h⟩;exact⟨a,c,F,vs,rfl,h⟩
end Go.Proofs.YtdgbechegbmpcaaGreatDoor
namespace Go.Proofs.YtdgbechegbmpcaaGreatDoor
open Go Go.Eng Go.Proofs.Tryz
open Go.Value (bool func)
open Option (isNone)
open Go.IntKind (wrap)
theorem vc170(c0:Nat->Int)(w:WD)(K:KV)(h:Q (AW w (List.toArray (AK .i64 c0 0 94)) 26 fun w'=>AW w' (List.toArray (List.replicate 94 (vi 0))) 26 fun f=>RI f w.heap.size 1 fun x=>Wif (CN x 16 16) (∃(c:WD),JA prog #[27] 0 (sl (BJ (some (Addr.mk w.heap.size 2 none)) 16 (Int.toNat x) 1) (16-Int.toNat x) (16-Int.toNat x)) f c/\RI c w.heap.size 0 fun x=>Wif (CN x 8 8) (∃(g:WD),JA prog #[27] 0 (sl (BJ (some (Addr.mk w.heap.size 18 none)) 8 (Int.toNat x) 1) (8-Int.toNat x) (8-Int.toNat x)) c g/\∃(I:Int->WD->Nat->Prop),(∃(n:Nat),I 0 g n)/\∀(n:Int) (a:WD) (h:Nat),I n a h->Wif (decide (n<8)) (Dr a fun i=>Wn n 8 (RI i w.heap.size 0 fun x=>Wif (CN x 8 8) (∃(w':WD),JA prog #[27] 0 (sl (BJ (some (Addr.mk w.heap.size (26+Int.toNat n*8) none)) 8 (Int.toNat x) 1) (8-Int.toNat x) (8-Int.toNat x)) i w'/\Lt h fun m=>I (wrap .i64 (n+1)) w' m) False)) (RI a w.heap.size 0 fun x=>Wif (CN x 8 8) (∃(b:WD),JA prog #[350] 0 (sl (BJ (some (Addr.mk w.heap.size 26 none)) 8 (Int.toNat x) 8) (8-Int.toNat x) (8-Int.toNat x)) a b/\∃(x:Nat->Int),AS b w.heap.size 0 (AK .i64 x 0 94)/\DF b w'.heap.size 0 (AK .i64 x 0 94)/\∀d,d=F0 b w'.heap.size 0 (AK .i64 x 0 94)->∃(x:Nat->Int),AS d w'.heap.size 0 (AK .i64 x 0 94)/\K (.agg (List.toArray (AK .i64 x 0 94))) d) False)) False) False)):Ret 170 #[Value.agg (List.toArray (AK .i64 c0 0 94))] w K:=vcA L10 1 [] func170 h
theorem vc171(c0:Nat->Int)(w:WD)(K:KV)(h:Q (AW w (List.toArray (AK .i64 c0 0 94)) 26 fun w'=>RI w' w.heap.size 0 fun x=>∃(I:Bool->Int->WD->Nat->Prop),(∃(n:Nat),I false 0 w' n)/\∀(b:Bool) (n:Int) (w':WD) (d:Nat),I b n w' d->Wif (decide (n<x)) (RI w' w.heap.size 0 fun x=>∃(c:Bool->Int->WD->Nat->Prop),(∃(n:Nat),c b 0 w' n)/\∀(b:Bool) (a:Int) (w':WD) (f:Nat),c b a w' f->Wif (decide (a<x)) (Wn n 8 (Wn a 8 (RI w' w.heap.size (26+Int.toNat n*8+Int.toNat a*1) fun x=>Wif (!(x==0)==(n==a)) (K (.bool false) w') (gIf (inB a 8) ((!(decide (x>=0)&&decide (x<=255)))=false) (gIf (inB n 8) ((!(decide (x>=0)&&decide (x<=255)))=false) (∃(g:Int),((!(decide (x>=0)&&decide (x<=255)))=false->rd w' w.heap.size (26+Int.toNat a*8+Int.toNat n*1)=some (.int .i64 g))/\Wif (!(decide (x>=0)&&decide (x<=255))||x != g) (K (.bool false) w') (Lt f fun m=>c b (wrap .i64 (a+1)) w' m))))))) (Lt d fun m=>I b (wrap .i64 (n+1)) w' m)) (K (.bool true) w'))):Ret 171 #[Value.agg (List.toArray (AK .i64 c0 0 94))] w K:=vcA L10 1 [] func171 h
theorem vc60(c0:Nat->Int)(w:WD)(K:KV)(h:Q (AW w (List.toArray (AK .i64 c0 0 94)) 26 fun w'=>Dr w' fun d=>RI d w.heap.size 0 fun x=>∃(g:Int),((!(decide (x>=1)&&decide (x<=8)))=false->rd d w.heap.size 1=some (.int .i64 g))/\Wif (!(decide (x>=1)&&decide (x<=8))) (K (.bool false) d) (∃(x:Int),((!(decide (g>=1)&&decide (g<=16)))=false->rd d w.heap.size 90=some (.int .i64 x))/\Wif (!(decide (g>=1)&&decide (g<=16))) (K (.bool false) d) (∃(a:Nat->Int),((!(decide (x>=0)&&decide (x<=1024)))=false->AS d w.heap.size 0 (AK .i64 a 0 94))/\∃(i:Nat->Int),((!(decide (x>=0)&&decide (x<=1024)))=false->AS d w.heap.size 0 (AK .i64 i 0 94))/\Wif (!(decide (x>=0)&&decide (x<=1024))) (((!(decide (x>=0)&&decide (x<=1024)))=false->AS d w.heap.size 0 (AK .i64 a 0 94)/\True)/\K (.bool false) d) (Calls prog 170 #[Value.agg (List.toArray (AK .i64 i 0 94))] d fun e w'=>∃(f:Nat->Int),e=rT (.agg (List.toArray (AK .i64 f 0 94)))/\((!(decide (x>=0)&&decide (x<=1024)))=false->AS w' w.heap.size 0 (AK .i64 a 0 94)/\True)/\Wif (!(a 0==f 0&&(a 1==f 1&&(a 2==f 2&&(a 3==f 3&&(a 4==f 4&&(a 5==f 5&&(a 6==f 6&&(a 7==f 7&&(a 8==f 8&&(a 9==f 9&&(a 10==f 10&&(a 11==f 11&&(a 12==f 12&&(a 13==f 13&&(a 14==f 14&&(a 15==f 15&&(a 16==f 16&&(a 17==f 17&&true)))))))))))))))&&(a 18==f 18&&(a 19==f 19&&(a 20==f 20&&(a 21==f 21&&(a 22==f 22&&(a 23==f 23&&(a 24==f 24&&(a 25==f 25&&true)))))))&&(a 26==f 26&&(a 27==f 27&&(a 28==f 28&&(a 29==f 29&&(a 30==f 30&&(a 31==f 31&&(a 32==f 32&&(a 33==f 33&&true)))))))&&(a 34==f 34&&(a 35==f 35&&(a 36==f 36&&(a 37==f 37&&(a 38==f 38&&(a 39==f 39&&(a 40==f 40&&(a 41==f 41&&true)))))))&&(a 42==f 42&&(a 43==f 43&&(a 44==f 44&&(a 45==f 45&&(a 46==f 46&&(a 47==f 47&&(a 48==f 48&&(a 49==f 49&&true)))))))&&(a 50==f 50&&(a 51==f 51&&(a 52==f 52&&(a 53==f 53&&(a 54==f 54&&(a 55==f 55&&(a 56==f 56&&(a 57==f 57&&true)))))))&&(a 58==f 58&&(a 59==f 59&&(a 60==f 60&&(a 61==f 61&&(a 62==f 62&&(a 63==f 63&&(a 64==f 64&&(a 65==f 65&&true)))))))&&(a 66==f 66&&(a 67==f 67&&(a 68==f 68&&(a 69==f 69&&(a 70==f 70&&(a 71==f 71&&(a 72==f 72&&(a 73==f 73&&true)))))))&&(a 74==f 74&&(a 75==f 75&&(a 76==f 76&&(a 77==f 77&&(a 78==f 78&&(a 79==f 79&&(a 80==f 80&&(a 81==f 81&&true)))))))&&(a 82==f 82&&(a 83==f 83&&(a 84==f 84&&(a 85==f 85&&(a 86==f 86&&(a 87==f 87&&(a 88==f 88&&(a 89==f 89&&true)))))))&&true)))))))&&(a 90==f 90&&(a 91==f 91&&(a 92==f 92&&(a 93==f 93&&true)))))))))) (K (.bool false) w') (RI w' w.heap.size 1 fun x=>Wif (CN 0 x 16) (∃(I:Bool->Int->WD->Nat->Prop),(∃(n:Nat),I false 0 w' n)/\∀(b:Bool) (n:Int) (w':WD) (j:Nat),I b n w' j->Wif (decide (n<(↑(Int.toNat x):Int))) (Wn n (Int.toNat x) (RI w' w.heap.size (2+Int.toNat n*1) fun x=>RI w' w.heap.size 0 fun c=>Wif (!(decide (x>=0)&&decide (x<=wrap .i64 (c-1)))) (K (.bool false) w') (Lt j fun m=>I b (wrap .i64 (n+1)) w' m))) (RI w' w.heap.size 0 fun x=>Wif (CN 0 x 8) (∃(I:Bool->Int->WD->Nat->Prop),(∃(n:Nat),I b 0 w' n)/\∀(b:Bool) (n:Int) (w':WD) (k:Nat),I b n w' k->Wif (decide (n<(↑(Int.toNat x):Int))) (Wn n (Int.toNat x) (RI w' w.heap.size (18+Int.toNat n*1) fun x=>∃(c:Int),((!(decide (x>=4)&&decide (x<=128)))=false->rd w' w.heap.size 93=some (.int .i64 c))/\Wif (!(decide (x>=4)&&decide (x<=128))||decide (c>x)) (K (.bool false) w') (Lt k fun m=>I b (wrap .i64 (n+1)) w' m))) (∃(x:Nat->Int),AS w' w.heap.size 0 (AK .i64 x 0 94)/\CB 171 #[Value.agg (List.toArray (AK .i64 x 0 94))] w' fun b w'=>∃(x:Int),(b=true->rd w' w.heap.size 91=some (.int .i64 x))/\∃(c:Int),((b&&decide (0<=x))=true->rd w' w.heap.size 91=some (.int .i64 c))/\∃(h:Int),((b&&decide (0<=x))=true->rd w' w.heap.size 92=some (.int .i64 h))/\∃(l:Int),((b&&decide (0<=x)&&decide (c<=h))=true->rd w' w.heap.size 92=some (.int .i64 l))/\∃(o:Int),((b&&decide (0<=x)&&decide (c<=h))=true->rd w' w.heap.size 93=some (.int .i64 o))/\K (.bool (b&&decide (0<=x)&&decide (c<=h)&&decide (l<=o))) w')) False)) False)))))):Ret 60 #[Value.agg (List.toArray (AK .i64 c0 0 94))] w K:=vcA L10 1 [] func60 h
theorem vc52(c0:Nat->Int)(frame:Int)(w:WD)(K:KV)(h:Q (AW w (List.toArray (AK .i64 c0 0 94)) 26 fun w'=>∃(x:Nat->Int),AS w' w.heap.size 0 (AK .i64 x 0 94)/\CB 60 #[Value.agg (List.toArray (AK .i64 x 0 94))] w' fun b w'=>Wif (!b) (K (.tuple #[vi 0,vi 2]) w') (∃(I:Int->Int->Int->Int->WD->Nat->Prop),(∃(n:Nat),I frame 0 0 0 w' n)/\∀(n c d a:Int) (w':WD) (f:Nat),I n c d a w' f->∃(x:Int),(decide (n>=0)=true->rd w' w.heap.size 0=some (.int .i64 x))/\Wif (decide (n>=0)&&decide (a<x)) (Wn a 8 (RI w' w.heap.size (18+Int.toNat a*1) fun x=>Wif (decide (n<x)) (K (.tuple #[vi a,vi 0]) w') (Wn a 8 (RI w' w.heap.size (18+Int.toNat a*1) fun x=>Lt f fun m=>I (wrap .i64 (n-x)) c d (wrap .i64 (a+1)) w' m)))) (K (.tuple #[vi 0,vi 7]) w')))):Ret 52 #[Value.agg (List.toArray (AK .i64 c0 0 94)),vi frame] w K:=vcA L10 1 [] func52 h
theorem vc92(c0:Nat->Int)(node:Int)(w:WD)(K:KV)(h:Q (AW w (List.toArray (AK .i64 c0 0 94)) 26 fun w'=>∃(x:Nat->Int),AS w' w.heap.size 0 (AK .i64 x 0 94)/\CB 60 #[Value.agg (List.toArray (AK .i64 x 0 94))] w' fun b w'=>Wif (!b) (K (.tuple #[vi 0,vi 2]) w') (RI w' w.heap.size 0 fun x=>Wif (!(decide (node>=0)&&decide (node<=wrap .i64 (x-1)))) (K (.tuple #[vi 0,vi 7]) w') (Wif (CN 0 node 8) (∃(I:Int->Int->WD->Nat->Prop),(∃(n:Nat),I 0 0 w' n)/\∀(n a:Int) (w':WD) (c:Nat),I n a w' c->Wif (decide (a<(↑(Int.toNat node):Int))) (Wn a (Int.toNat node) (RI w' w.heap.size (18+Int.toNat a*1) fun x=>Lt c fun m=>I (wrap .i64 (n+x)) (wrap .i64 (a+1)) w' m)) (K (.tuple #[vi n,vi 0]) w')) False)))):Ret 92 #[Value.agg (List.toArray (AK .i64 c0 0 94)),vi node] w K:=vcA L10 1 [] func92 h
end Go.Proofs.YtdgbechegbmpcaaGreatDoor
namespace Go.Proofs.YtdgbechegbmpcaaGreatDoor
open Go Go.Eng Go.Proofs.Tryz
abbrev cfg(c:Nat->Int):List Value:=AK .i64 c 0 94
abbrev KK(c:Nat->Int):Value:=.agg (cfg c).toArray
def LU(f:Nat->Int)(o n:Nat):Nat->Int:=fun i=>if o<=i/\i<o+n then 0 else f i
section
variable {w w':WD}{b:Nat}{f:Nat->Int}
theorem QH{t e:TypeId}{z:Value}{s:Nat}(ht:prog.underlying t=some (.slice e))(hv:∀w,(zeroValue e).run prog w=.ok z w)(hz:z.cells=(List.replicate s (.int .i64 0)).toArray)
 (h:own w b (cfg f)) (o k cap:Nat) (hk:k<=cap) (hn:o+cap*s<=94) {ty:TypeId} :
 ∃w',JA prog #[t] ty (.slice (BJ (some ⟨b,o,none⟩) cap k s) (cap-k) (cap-k)) w w'/\own w' b (cfg (LU f (o+k*s) ((cap-k)*s)))/\Kept (·=b) w w':=by
 have hks:k*s+(cap-k)*s=cap*s:=by rw [<- Nat.add_mul];congr 1;omega
 have hoff:∃o',BJ (some ⟨b,o,none⟩) cap k s=some ⟨b,o',none⟩/\(o'=o+k*s\/k=cap)/\o'+(cap-k)*s<=94:=by
  unfold BJ;by_cases e:cap=k
  ·rw [if_pos e];exact⟨o,rfl,.inr e.symm,by subst e;simp;omega⟩
  ·rw [if_neg e];refine⟨o+k*s,?_,.inl rfl,by omega⟩;simp [Addr.add]
 obtain⟨o',e1,e2,e3⟩:=hoff;rw [e1];obtain⟨w',hc,ho,hkp⟩:=clrN_own (ty:=ty) ht hv hz rfl h o' (cap-k) (cap-k) (by rw [AI];exact e3);refine⟨w',hc,?_,hkp⟩;have:(cfg f).take o'++List.replicate ((cap-k)*s) (Value.int .i64 0)++(cfg f).drop (o'+(cap-k)*s)=cfg (LU f (o+k*s) ((cap-k)*s)):=by
  refine E6 (by simp [AI];omega) fun j hj=>?_;have hl:((cfg f).take o').length=o':=by simp [AI];omega
  by_cases h1:j<o'
  ·rw [List.append_assoc,gal (by omega),List.getElem?_take,if_pos h1,AT _ _ _ _ _ hj,za];unfold LU;rw [if_neg];rcases e2 with rfl|rfl
   ·omega
   ·rw [Nat.sub_self];omega
  ·by_cases h2:j<o'+(cap-k)*s
   ·rw [gal (by simp [AI];omega),gar (by omega),List.getElem?_replicate,if_pos (by omega)];unfold LU;rw [if_pos];rcases e2 with rfl|rfl
    ·omega
    ·rw [Nat.sub_self] at h2;omega
   ·rw [gar (by simp [AI];omega),List.getElem?_drop];rw [show o'+(cap-k)*s+(j-(List.take o' (cfg f)++List.replicate ((cap-k)*s) (Value.int .i64 0)).length)=j by simp [AI];omega,AT _ _ _ _ _ hj,za];unfold LU;rw [if_neg];rcases e2 with rfl|rfl
    ·omega
    ·rw [Nat.sub_self];omega
 rw [this] at ho;exact ho
end
def HV(c:Nat->Int)(i:Nat):Int:=
 if (2+(c 1).toNat<=i/\i<18)\/(18+(c 0).toNat<=i/\i<26)\/(26<=i/\i<90/\((c 0).toNat<=(i-26)%8\/(c 0).toNat<=(i-26)/8)) then 0 else c i
def KN(c g:Nat->Int)(q:Nat)(i:Nat):Int:=if 26<=i/\i<26+8*q/\(c 0).toNat<=(i-26)%8 then 0 else g i
theorem zero3'(w:WD):(zeroValue 3).run prog w=.ok (.int .i64 0) w:=Tryz.zeroValue3 w
theorem zero38(w:WD):(zeroValue 23).run prog w=.ok (.agg (List.replicate 8 (Value.int .i64 0)).toArray) w:=Tryz.zeroValue23 w
theorem bare_spec(c:Nat->Int)(w:WD)(h0:0<=c 0/\c 0<=8)(h1:0<=c 1/\c 1<=16) :
 Calls prog 170 #[KK c] w fun r w'=>r=.returned (KK (HV c))/\Kept AB w w':=by
 refine(vc170 c w (fun v w'=>v=KK (HV c)/\Kept AB w w') ?_).mono ?_
 ·unfold Q;intro w1 e1 w2 e2;have o1:=AD e1;have k1:=kal e1;have o2:=o1.al e2;have p2:=AD e2;have k2:Kept AB w w2:=k1.al e2;have z1:w1.heap.size=w.heap.size+1:=by rw [e1];simp only [World.alloc,Array.size_push]
  have z2:w2.heap.size=w.heap.size+2:=by rw [e2];simp only [World.alloc,Array.size_push];omega
  clear e1 e2;generalize hb:w.heap.size=b at *;generalize hb2:w1.heap.size=b2 at *;have kb:∀{X:NP}{wa wb:WD},Kept AB w wa->Kept (·=b) wa wb->Kept AB w wb:=fun ka k=>ka.trans k fun x hx e=>by omega
  refine⟨_,o2.rI (j:=1) (by omega),AA (BI h1.1 h1.2 (Int.le_refl _)) ?_⟩;obtain⟨w3,c3,o3,k3⟩:=QH (t:=27) (e:=3) (s:=1) (z:=.int .i64 0) (ty:=0) underlying27 zero3' rfl o2 2 (c 1).toNat 16 (by omega) (by omega);refine⟨w3,c3,?_⟩;have K3:=kb (X:=AB) k2 k3;have p3:=p2.kx k3 (by omega);have e0:LU c (2+(c 1).toNat*1) ((16-(c 1).toNat)*1) 0=c 0:=by unfold LU;rw [if_neg (by omega)]
  generalize hf1:LU c (2+(c 1).toNat*1) ((16-(c 1).toNat)*1)=f1 at *;refine⟨c 0,by rw [o3.rI (j:=0) (by omega),e0],AA (BI h0.1 h0.2 (Int.le_refl _)) ?_⟩;obtain⟨w4,c4,o4,k4⟩:=QH (t:=27) (e:=3) (s:=1) (z:=.int .i64 0) (ty:=0) underlying27 zero3' rfl o3 18 (c 0).toNat 8 (by omega) (by omega);refine⟨w4,c4,?_⟩;have K4:=kb (X:=AB) K3 k4;have p4:=p3.kx k4 (by omega);have e0':LU f1 (18+(c 0).toNat*1) ((8-(c 0).toNat)*1) 0=c 0:=by unfold LU;rw [if_neg (by omega),e0]
  generalize hf2:LU f1 (18+(c 0).toNat*1) ((8-(c 0).toNat)*1)=f2 at *;refine⟨fun k w' N=>∃q:Nat,k=q/\q<=8/\N=8-q/\Kept AB w w'/\own w' b (cfg (KN c f2 q))/\own w' b2 (List.replicate 94 (Value.int .i64 0)),⟨8,0,rfl,by omega,rfl,K4,?_,p4⟩,?_⟩
  ·have:cfg (KN c f2 0)=cfg f2:=MO fun j hj=>by unfold KN;rw [if_neg (by omega)]
   rw [this];exact o4
  rintro _ w5 _ ⟨q,rfl,hq,rfl,K5,o5,p5⟩;have er:KN c f2 q 0=c 0:=by unfold KN;rw [if_neg (by omega),e0']
  refine AE (fun hc=>?_) (fun hc=>?_)
  ·simp only [decide_eq_true_eq] at hc;intro w6 e6;have K6:=K5.dr e6;have o6:=o5.dr e6;have p6:=p5.dr e6;refine Wi ⟨c 0,by rw [o6.rI (j:=0) (by omega),er],AA (BI h0.1 h0.2 (Int.le_refl _)) ?_⟩;obtain⟨w7,c7,o7,k7⟩:=QH (t:=27) (e:=3) (s:=1) (z:=.int .i64 0) (ty:=0) underlying27 zero3' rfl o6 (26+q*8) (c 0).toNat 8 (by omega) (by omega);refine⟨w7,by rw [tnc];exact c7,8-(q+1),by omega,q+1,wzz,by omega,rfl,kb (X:=AB) K6 k7,?_,p6.kx k7 (by omega)⟩;have:cfg (LU (KN c f2 q) (26+q*8+(c 0).toNat*1) ((8-(c 0).toNat)*1))=cfg (KN c f2 (q+1)):=MO fun j hj=>by
    simp only [LU,KN,za];by_cases h2:26<=j/\j<26+8*q/\(c 0).toNat<=(j-26)%8
    ·rw [if_neg (by omega),if_pos h2,if_pos (by omega)]
    ·by_cases h3:26+q*8+(c 0).toNat*1<=j/\j<26+q*8+(c 0).toNat*1+(8-(c 0).toNat)*1
     ·rw [if_pos h3,if_pos (by omega)]
     ·rw [if_neg h3,if_neg h2,if_neg (by omega)]
   rw [<- this];exact o7
  ·have hq8:q=8:=by simp at hc;omega
   subst hq8;refine⟨c 0,by rw [o5.rI (j:=0) (by omega),er],AA (BI h0.1 h0.2 (Int.le_refl _)) ?_⟩;obtain⟨w6,c6,o6,k6⟩:=QH (t:=350) (e:=23) (s:=8) (ty:=0) underlying350 zero38 rfl o5 26 (c 0).toNat 8 (by omega) (by omega);have K6:=kb (X:=AB) K5 k6;have p6:=p5.kx k6 (by omega);have hcf:cfg (LU (KN c f2 8) (26+(c 0).toNat*8) ((8-(c 0).toNat)*8))=cfg (HV c):=MO fun j hj=>by
    rw [<- hf2,<- hf1];simp only [LU,KN,HV,za];by_cases h2:(2+(c 1).toNat<=j/\j<18)\/(18+(c 0).toNat<=j/\j<26)\/(26<=j/\j<90/\((c 0).toNat<=(j-26)%8\/(c 0).toNat<=(j-26)/8))
    ·rw [if_pos h2];split
     ·rfl
     split
     ·rfl
     split
     ·rfl
     split
     ·rfl
     omega
    ·rw [if_neg h2,if_neg (by omega),if_neg (by omega),if_neg (by omega),if_neg (by omega)]
   rw [hcf] at o6;refine⟨w6,c6,HV c,o6.DR,p6.DF 0 (by rw [AI];simp),?_⟩;intro w7 e7;obtain⟨o7,k7⟩:=EZ p6 e7 (by rw [AI];simp);exact⟨HV c,o7.DR,rfl,K6.trans k7 fun x hx e=>by omega⟩
 ·rintro e w' ⟨v,rfl,rfl,hw⟩;exact⟨rfl,hw⟩
end Go.Proofs.YtdgbechegbmpcaaGreatDoor
