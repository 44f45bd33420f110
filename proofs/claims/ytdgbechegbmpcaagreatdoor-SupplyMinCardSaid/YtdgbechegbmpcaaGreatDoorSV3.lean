/- Part of a proof that a law returns true. Conditions: those in each theorem. -/
import Derived.Test.YtdgbechegbmpcaaGreatDoorM7
set_option linter.unusedVariables false
set_option linter.unusedSimpArgs false
set_option maxRecDepth 100000
namespace Go.Proofs.YtdgbechegbmpcaaGreatDoor
open Go Go.Eng Go.Proofs.Tryz
open Go.Value (bool func slice agg int)
open Option (isNone)
open Go.IntKind (wrap)
open List (replicate range)
variable {l l':List Bk}{b c cpu f i j:Nat}{high:Bool}{a page pid:Int}{w' w2:WD}{xs:List Nat}{S:AR}{fp:Prt->Nat->Prop}{t:TypeId}{g:NI}
theorem vc196(k:OA)(cpu node role:Int)(high:Bool)(w:WD)(K:KV)(h:Q (Dr w λb=>Wp k (Rp b k 95 λx=>Wp k (Ri b k 91 λa=>CI 11 #[pt x,vi node] b λn w'=>Rt w' (pb k) (po k+91) (.int .i64 a)<|Wif (decide (n<=a)) (K (.tuple #[vi 0,bool false]) w') (Wp k (Rp w' k 95 λx=>CJ 33 #[pt x,vi node,vi 0,bool high] w' λn c w'=>Wif (c != 0) (K (.tuple #[vi 0,bool false]) w') (Wp k (Rp w' k 94 λx=>CI 240 #[pt x,vi n] w' λd w'=>Wp k (Rp w' k 94 λx=>CI 34 #[pt x,vi n,agg #[vu role,vi 0,vi 0,vi 0,vi 0]] w' λf w'=>C0 241 #[pt k,vi cpu,vi n] w' λw'=>K (.tuple #[vi n,bool true]) w'))))))))):Ret 196 #[pt k,vi cpu,vi node,vu role,bool high] w K:=vcA L7 2 [] func196 h
theorem vc121(k:OA)(cpu:Int)(AK:OA)(CL nodesC:Nat)(role:Int)(high:Bool)(then':Value)(w:WD)(K:KV)(h:Q (AW w #[pt k] 54 λw'=>AW w' #[vi cpu] 3 λb=>AW b #[sl AK CL nodesC] 27 λd=>AW d #[vu role] 84 λf=>AW f #[bool high] 4 λc=>AW c (Value.cells then') 217 λa=>RS a b.heap.size 0 λx j r=>Wif ((↑j:Int)==0) (K (.func (.func 194) #[] #[AP c.heap.size]) a) (RS a b.heap.size 0 λx l s=>Wp x (Wn 0 l (Ri a x 0 λo=>AW a #[vi 0] 3 λh=>Sw h a.heap.size 0 (vi (wrap .i64 (9+o))) λi=>Dr i λg=>RP g w.heap.size 0 λx=>Wp x (Rp g x 97 λp=>RI g w'.heap.size 0 λx=>RI g a.heap.size 0 λq=>Ret 184 #[pt p,vi x,vi q,func (.func 195) #[] #[AP w.heap.size,AP w'.heap.size,AP b.heap.size,AP d.heap.size,AP f.heap.size,AP a.heap.size,AP c.heap.size]] g K)))))):Ret 121 #[pt k,vi cpu,sl AK CL nodesC,vu role,bool high,then'] w K:=vcA L7 2 [] func121 h
theorem vc194(x0:Bool)(a:OA)(w:WD)(K:KV)(h:Q (Wp a (Rv w a 0 λx=>AN prog x [vi (-1),vi 6] w λe w'=>∃(v:Value),e=rT v/\K v w'))):Ret 194 #[bool x0,pt a] w K:=vcA L7 2 [2000004] func194 h
def vcP195(x0:Bool)(a c f g h j i:OA)(w:WD)(K:KV):Prop:=Dr w λd=>Wp a (Rp d a 0 λx=>Wp c (Ri d c 0 λy=>Wp f (Rs d f 0 λl z F=>Wp l (Wn 0 z (Ri d l 0 λA=>Wp g (Re d g 0 λB=>Wp h (Rb d h 0 λC=>Calls prog 196 #[pt x,vi y,vi A,vu B,bool C] d λe w'=>∃(n:Int) (b:Bool),e=rT (.tuple #[vi n,bool b])/\Wp a (Rp w' a 0 λx=>Wp c (Ri w' c 0 λD=>Wp j (Ri w' j 0 λE=>AW w' #[vi E] 3 λp=>C0 188 #[pt x,vi D,sl (aD w'.heap.size) 1 1] p λw'=>Wif b (Wp i (Rv w' i 0 λx=>AN prog x [vi n,vi 0] w' λe w'=>∃(v:Value),e=rT v/\K v w')) (Dr w' λd=>Wp a (Rp d a 0 λx=>Wp c (Ri d c 0 λq=>Wp f (Rs d f 0 λr o k=>Wif (CZ 1 (↑o:Int) (↑k:Int)) (Wp g (Re d g 0 λs=>Wp h (Rb d h 0 λt=>Wp i (Rv d i 0 λu=>Ret 121 #[pt x,vi q,sl (BS r k 1 1) (o-1) (k-1),vu s,bool t,u] d K)))) False))))))))))))))
theorem vc195(x0:Bool)(a b c d f g i:OA)(w:WD)(K:KV)(h:vcP195 x0 a b c d f g i w K):Ret 195 #[bool x0,pt a,pt b,pt c,pt d,pt f,pt g,pt i] w K:=vcA L7 2 [2000029] func195 h
theorem vc107(k:OA)(cpu:Int)(AK:Value)(role:Int)(high:Bool)(then':Value)(w:WD)(K:KV)(h:Q (AW w #[pt k] 54 λw'=>AW w' #[vi cpu] 3 λa=>AW a (Value.cells AK) 219 λb=>AW b #[vu role] 84 λc=>AW c #[bool high] 4 λd=>AW d (Value.cells then') 217 λf=>K (.func (.func 181) #[] #[bp a,bp w,bp w',bp b,bp c,bp d]) f)):Ret 107 #[pt k,vi cpu,AK,vu role,bool high,then'] w K:=vcA L7 2 [] func107 h
def vcP181(x0:Bool)(d f g h i j:OA)(w:WD)(K:KV):Prop:=Wp d (Rv w d 0 λx=>AN prog x [] w λe w'=>∃(a:OA) (l c:Nat),e=rT (sl a l c)/\AW w' #[sl none 0 0] 27 λk=>Sw k w'.heap.size 0 (sl a l c) λb=>Wp f (Rp b f 0 λx=>Wp g (Ri b g 0 λo=>RS b w'.heap.size 0 λp q r=>Wp h (Re b h 0 λs=>Wp i (Rb b i 0 λt=>Ret 121 #[pt x,vi o,sl p q r,vu s,bool t,func (.func 182) #[] #[pt j,pt f,pt g,bp w',pt d,pt h,pt i]] b K)))))
theorem vc181(x0:Bool)(a b c d f g:OA)(w:WD)(K:KV)(h:vcP181 x0 a b c d f g w K):Ret 181 #[bool x0,pt a,pt b,pt c,pt d,pt f,pt g] w K:=vcA L7 2 [2000010] func181 h
def vcP182(f e':Int)(a b c d g h i:OA)(w:WD)(K:KV):Prop:=Wif (e'==0) (Wp a (Rv w a 0 λx=>AN prog x [vi f,vi e'] w λe w'=>∃(v:Value),e=rT v/\K v w')) (Wp b (Rp w b 0 λx=>Wp c (Ri w c 0 λj=>Wp d (Rs w d 0 λk l o=>Ret 123 #[pt x,vi j,sl k l o,func (.func 183) #[] #[pt a,pt b,pt c,pt g,pt h,pt i]] w K))))
theorem vc182(f e':Int)(a b c d g i j:OA)(w:WD)(K:KV)(h:vcP182 f e' a b c d g i j w K):Ret 182 #[vi f,vi e',pt a,pt b,pt c,pt d,pt g,pt i,pt j] w K:=vcA L7 2 [2000014] func182 h
theorem vc183(got:Int)(a b c d f g:OA)(w:WD)(K:KV)(h:Q (Wif (got==0) (Wp a (Rv w a 0 λx=>AN prog x [vi (-1),vi 6] w λe w'=>∃(v:Value),e=rT v/\K v w')) (Wp b (Rp w b 0 λx=>Wp c (Ri w c 0 λh=>Wp d (Rv w d 0 λi=>Wp f (Re w f 0 λj=>Wp g (Rb w g 0 λk=>Wp a (Rv w a 0 λl=>Ret 107 #[pt x,vi h,i,vu j,bool k,l] w K))))))))):Ret 183 #[vi got,pt a,pt b,pt c,pt d,pt f,pt g] w K:=vcA L7 2 [2000011] func183 h
theorem vc110(k:OA)(cpu frame:Int)(then':Value)(w:WD)(K:KV)(h:Q (AW w #[pt k] 54 λw'=>AW w' #[vi cpu] 3 λb=>AW b #[vi frame] 3 λd=>AW d (Value.cells then') 123 λc=>RP c w.heap.size 0 λx=>RI c b.heap.size 0 λi=>Calls prog 18 #[pt x,vi i] c λ(e:Ending) (a:WD)=>∃(n:Int),e=rT (vi n)/\AW a #[vi 0] 3 λg=>Sw g a.heap.size 0 (vi (wrap .i64 (9+n))) λh=>Dr h λf=>RP f w.heap.size 0 λx=>Wp x (Rp f x 97 λj=>RI f w'.heap.size 0 λx=>RI f a.heap.size 0 λl=>Ret 184 #[pt j,vi x,vi l,func (.func 185) #[] #[AP w.heap.size,AP w'.heap.size,AP b.heap.size,AP a.heap.size,AP d.heap.size]] f K))):Ret 110 #[pt k,vi cpu,vi frame,then'] w K:=vcA L7 2 [] func110 h
theorem vc185(x0:Bool)(a b c d f:OA)(w:WD)(K:KV)(h:Q (Wp a (Rp w a 0 λx=>Wp b (Ri w b 0 λh=>Wp c (Ri w c 0 λi=>C0 186 #[pt x,vi h,vi i] w λw'=>Wp a (Rp w' a 0 λx=>Wp c (Ri w' c 0 λj=>CI 187 #[pt x,vi j] w' λn w'=>Wp a (Rp w' a 0 λx=>Wp b (Ri w' b 0 λk=>Wp d (Ri w' d 0 λl=>AW w' #[vi l] 3 λg=>C0 188 #[pt x,vi k,sl (aD w'.heap.size) 1 1] g λw'=>Wp f (Rv w' f 0 λx=>K x w'))))))))))):Ret 185 #[bool x0,pt a,pt b,pt c,pt d,pt f] w K:=vcA L7 2 [] func185 h
theorem vc118(k:OA)(cpu frame:Int)(then':Value)(w:WD)(K:KV)(h:Q (AW w #[pt k] 54 λw'=>AW w' #[vi cpu] 3 λa=>AW a #[vi frame] 3 λb=>AW b (Value.cells then') 122 λc=>K (.func (.func 192) #[] #[bp w,bp a,bp b,bp w']) c)):Ret 118 #[pt k,vi cpu,vi frame,then'] w K:=vcA L7 2 [] func118 h
theorem vc192(x0:Bool)(a c d f:OA)(w:WD)(K:KV)(h:Q (Dr w λg=>Wp a (Rp g a 0 λx=>Wp x (Rp g x 98 λk=>Wp c (Ri g c 0 λx=>Calls prog 117 #[pt k,vi x] g λe w'=>∃(n h:Int) (b:Bool),e=rT (.tuple #[vi n,vi h,bool b])/\Wif (!b) (Wp d (Rv w' d 0 λx=>AN prog x [bool false] w' λe w'=>∃(v:Value),e=rT v/\K v w')) (Wp a (Rp w' a 0 λx=>Wp f (Ri w' f 0 λl=>Wp c (Ri w' c 0 λo=>Wp d (Rv w' d 0 λi=>Wif (B9t [i]) (AW w' #[pt x,vi l,vi o,vi n,vi h,vi (wrap .i64 (n-1)),vi 0,i] 316 λj=>Dr j λg=>Wp a (Rp g a 0 λx=>Wp x (Rp g x 97 λp=>Wp f (Ri g f 0 λx=>RI g w'.heap.size 5 λq=>Ret 184 #[pt p,vi x,vi q,func (.func 193) #[bp w'] #[]] g K)))) False)))))))))):Ret 192 #[bool x0,pt a,pt c,pt d,pt f] w K:=vcA L7 2 [2000023] func192 h
theorem vc193(g:OA)(x1:Bool)(w:WD)(K:KV)(h:Q (Dr w λa=>Wp g (Rp a g 0 λx=>Wp x (Rp a x 98 λo=>Wp g (Ri a g 2 λx=>Calls prog 117 #[pt o,vi x] a λe w'=>∃(n h:Int) (b:Bool),e=rT (.tuple #[vi n,vi h,bool b])/\Dr w' λa=>Wp g (Rp a g 0 λx=>Wp g (Ri a g 3 λk=>Wp x (Wn k 9 (RP a (pb x) (po x+105+k.toNat*1) λf=>gIf (isP g) ((!b)=false) (∃(x:Int),((!b)=false->rd a (pb g) (po g+3)=some (.int .i64 x))/\gIf (isP g) ((!b||n != x)=false) (∃(i:Int),((!b||n != x)=false->rd a (pb g) (po g+4)=some (.int .i64 i))/\gIf (isP f) ((!b||n != x||h != i||isNone f)=false) (∃(l:OA),((!b||n != x||h != i||isNone f)=false->rd a (pb f) (po f+2)=some (.pointer l))/\Wif (!b||n != x||h != i||isNone f) (Dr a λc=>Wp g (Rp c g 0 λx=>Wp g (Ri c g 1 λd=>Wp g (Ri c g 5 λj=>AW c #[vi j] 3 λw'=>Rt w' (pb g) (po g+1) (.int .i64 d)<|Rt w' (pb g) (po g) (.pointer x)<|C0 188 #[pt x,vi d,sl (aD c.heap.size) 1 1] w' λw'=>Wp g (Rv w' g 7 λx=>AN prog x [bool false] w' λe w'=>∃(v:Value),e=rT v/\K v w'))))) (CB 103 #[pt l,vi h] a λb w'=>Wif b (Dr w' λa=>Wp g (Rp a g 0 λx=>Wp g (Ri a g 1 λd=>Wp g (Ri a g 5 λj=>AW a #[vi j] 3 λw'=>Rt w' (pb g) (po g+1) (.int .i64 d)<|Rt w' (pb g) (po g) (.pointer x)<|C0 188 #[pt x,vi d,sl (aD a.heap.size) 1 1] w' λw'=>Wp g (Rv w' g 7 λx=>AN prog x [bool false] w' λe w'=>∃(v:Value),e=rT v/\K v w'))))) (Dr w' λa=>Wp g (Rp a g 0 λx=>Wp x (Rp a x 97 λd=>Wp g (Ri a g 1 λx=>Ret 184 #[pt d,vi x,vi 8,func (.func 239) #[pt g] #[]] a K))))))))))))))))):Ret 193 #[pt g,bool x1] w K:=vcA L7 2 [2000084] func193 h
theorem vc239(g:OA)(x1:Bool)(w:WD)(K:KV)(h:Q (Dr w λa=>Wp g (Rp a g 0 λx=>Wp x (Rp a x 99 λh=>Wp g (Ri a g 3 λx=>Wp g (Ri a g 4 λi=>CJ 272 #[pt h,vi x,vi i] a λn j w'=>Wif (j != 0) (Dr w' λa=>Wp g (Rp a g 0 λx=>Wp g (Ri a g 1 λb=>Wp g (Ri a g 5 λc=>AW a #[vi c,vi 8] 3 λw'=>Rt w' (pb g) (po g+1) (.int .i64 b)<|Rt w' (pb g) (po g) (.pointer x)<|C0 188 #[pt x,vi b,sl (aD a.heap.size) 2 2] w' λw'=>Wp g (Rv w' g 7 λx=>AN prog x [bool false] w' λe w'=>∃(v:Value),e=rT v/\K v w'))))) (Dr w' λa=>Wp g (Rp a g 0 λx=>Wp x (Rs a x 116 λb c k=>Wp g (Ri a g 1 λx=>Wp g (Sw a (pb g) (po g+6) (vi n) λw'=>Wp b (Wn x c (Sw w' (pb b) (po b+x.toNat*1) (vi n) λf=>Dr f λa=>Wp g (Rp a g 0 λx=>Wp g (Ri a g 1 λd=>AW a #[vi 8] 3 λw'=>Rt w' (pb g) (po g+1) (.int .i64 d)<|Rt w' (pb g) (po g) (.pointer x)<|C0 188 #[pt x,vi d,sl (aD a.heap.size) 1 1] w' λw'=>K (.func (.func 273) #[pt g] #[]) w'))))))))))))))):Ret 239 #[pt g,bool x1] w K:=vcA L7 2 [2000045] func239 h
theorem vc273(g:OA)(fail:Bool)(w:WD)(K:KV)(h:Q (Dr w λb=>Wp g (Rp b g 0 λx=>Wp x (Rp b x 96 λh=>Wp g (Ri b g 6 λi=>Wp g (Rp b g 0 λf=>Wp f (Rp b f 94 λk=>Wp g (Ri b g 2 λo=>CS 295 #[pt k,vi o] b λa l c w'=>Rt w' (pb g) (po g+6) (.int .i64 i)<|Rt w' (pb x) (po x+96) (.pointer h)<|Rt w' (pb g) (po g) (.pointer x)<|CI 294 #[pt h,vi i,sl a l c,bool fail] w' λn w'=>Wif (n != 0) (Dr w' λb=>Wp g (Rp b g 0 λx=>Wp x (Rp b x 97 λd=>Wp g (Ri b g 1 λx=>Ret 184 #[pt d,vi x,vi 8,func (.func 296) #[pt g] #[]] b K)))) (Dr w' λb=>Wp g (Rp b g 0 λx=>Wp x (Rp b x 97 λd=>Wp g (Ri b g 1 λj=>Wp g (Rp b g 0 λp=>Wp g (Ri b g 2 λq=>CI 18 #[pt p,vi q] b λn w'=>Rt w' (pb g) (po g+1) (.int .i64 j)<|Rt w' (pb x) (po x+97) (.pointer d)<|Rt w' (pb g) (po g) (.pointer x)<|Ret 184 #[pt d,vi j,vi (wrap .i64 (9+n)),func (.func 297) #[pt g] #[]] w' K)))))))))))))):Ret 273 #[pt g,bool fail] w K:=vcA L7 2 [] func273 h
theorem vc297(g:OA)(x1:Bool)(w:WD)(K:KV)(h:Q (Dr w λa=>Wp g (Rp a g 0 λx=>Wp g (Ri a g 3 λp=>Wp g (Ri a g 4 λq=>CJ 316 #[pt x,vi p,vi q] a λn z w'=>Dr w' λa=>Wp g (Rp a g 0 λx=>Wp x (Rp a x 94 λr=>Wp g (Rp a g 0 λx=>Wp g (Ri a g 3 λd=>Wp x (Wn d 9 (RP a (pb x) (po x+105+d.toNat*1) λf=>Wp f (Ri a f 1 λs=>Wp g (Ri a g 4 λt=>Wp g (Ri a g 6 λu=>CI 100 #[pt r,vi s,vi t,agg #[vu 2,vi u]] a λn w'=>Rt w' (pb g) (po g+3) (.int .i64 d)<|Rt w' (pb g) (po g) (.pointer x)<|Dr w' λa=>Wp g (Rp a g 0 λx=>Wp x (Rs a x 116 λh j y=>Wp g (Ri a g 1 λx=>Wp h (Wn x j (Sw a (pb h) (po h+x.toNat*1) (vi (-1)) λw'=>Dr w' λa=>Wp g (Rp a g 0 λx=>Wp g (Ri a g 2 λk=>CI 187 #[pt x,vi k] a λn w'=>Dr w' λa=>Wp g (Rp a g 0 λx=>Wp g (Ri a g 1 λb=>Wp g (Ri a g 5 λi=>Wp g (Rp a g 0 λl=>Wp g (Ri a g 2 λo=>CI 18 #[pt l,vi o] a λn w'=>Rt w' (pb g) (po g+5) (.int .i64 i)<|Rt w' (pb g) (po g+1) (.int .i64 b)<|Rt w' (pb g) (po g) (.pointer x)<|AW w' #[vi i,vi (wrap .i64 (9+n))] 3 λc=>Rt c (pb g) (po g+1) (.int .i64 b)<|Rt c (pb g) (po g) (.pointer x)<|C0 188 #[pt x,vi b,sl (aD w'.heap.size) 2 2] c λw'=>Wp g (Rv w' g 7 λx=>AN prog x [bool true] w' λe w'=>∃(v:Value),e=rT v/\K v w'))))))))))))))))))))))))))):Ret 297 #[pt g,bool x1] w K:=vcA L7 2 [2000098] func297 h
theorem vc123(k:OA)(cpu:Int)(AK:OA)(CL nodesC:Nat)(then':Value)(w:WD)(K:KV)(h:Q (AW w #[pt k] 54 λw'=>AW w' #[vi cpu] 3 λb=>AW b #[sl AK CL nodesC] 27 λc=>AW c (Value.cells then') 228 λa=>RS a b.heap.size 0 λx h p=>Wif ((↑h:Int)==0) (K (.func (.func 197) #[] #[bp c]) a) (RS a b.heap.size 0 λx i q=>Wp x (Wn 0 i (Ri a x 0 λj=>AW a #[vi 0] 3 λf=>Sw f a.heap.size 0 (vi (wrap .i64 (9+j))) λg=>Dr g λd=>RP d w.heap.size 0 λx=>Wp x (Rp d x 97 λl=>RI d w'.heap.size 0 λx=>RI d a.heap.size 0 λo=>Ret 184 #[pt l,vi x,vi o,func (.func 198) #[] #[bp w,bp b,bp w',bp a,bp c]] d K)))))):Ret 123 #[pt k,vi cpu,sl AK CL nodesC,then'] w K:=vcA L7 2 [] func123 h
theorem vc197(x0:Bool)(a:OA)(w:WD)(K:KV)(h:Q (Wp a (Rv w a 0 λx=>AN prog x [vi 0] w λe w'=>∃(v:Value),e=rT v/\K v w'))):Ret 197 #[bool x0,pt a] w K:=vcA L7 2 [2000004] func197 h
theorem vc198(x0:Bool)(a b c k d:OA)(w:WD)(K:KV)(h:Q (Dr w λi=>Wp a (Rp i a 0 λx=>Wp b (Rs i b 0 λl D H=>Wp l (Wn 0 D (Ri i l 0 λE=>Wp a (Rp i a 0 λf=>Wp f (Rs i f 100 λg q F=>Wp b (Rs i b 0 λh o r=>Wp h (Wn 0 o (Ri i h 0 λj=>Wp g (Wn j q (Rp i g (j.toNat*1) λp=>CI 199 #[pt x,vi E] i λn w'=>Rt w' (pb g) (po g+j.toNat*1) (.pointer p)<|Rt w' (pb h) (po h) (.int .i64 j)<|Rt w' (pb b) (po b) (.slice h o r)<|Rt w' (pb f) (po f+100) (.slice g q F)<|Rt w' (pb a) (po a) (.pointer f)<|CI 200 #[pt p] w' λG w'=>Rt w' (pb a) (po a) (.pointer f)<|Wp a (Rp w' a 0 λx=>Wp c (Ri w' c 0 λs=>Wp k (Ri w' k 0 λt=>AW w' #[vi t] 3 λu=>C0 188 #[pt x,vi s,sl (aD w'.heap.size) 1 1] u λw'=>Wif (decide (n>0)) (Wp d (Rv w' d 0 λx=>AN prog x [vi n] w' λe w'=>∃(v:Value),e=rT v/\K v w')) (Wp a (Rp w' a 0 λx=>Wp c (Ri w' c 0 λy=>Wp b (Rs w' b 0 λz A B=>Wp d (Rv w' d 0 λC=>Ret 201 #[pt x,vi y,sl z A B,vi (wrap .i64 (3*G)),C] w' K))))))))))))))))))))):Ret 198 #[bool x0,pt a,pt b,pt c,pt k,pt d] w K:=vcA L7 2 [2000033] func198 h
theorem vc201(k:OA)(cpu:Int)(AK:OA)(CL nodesC:Nat)(left:Int)(then':Value)(w:WD)(K:KV)(h:Q (AW w #[pt k] 54 λw'=>AW w' #[vi cpu] 3 λc=>AW c #[sl AK CL nodesC] 27 λf=>AW f #[vi left] 3 λg=>AW g (Value.cells then') 228 λa=>RI a f.heap.size 0 λx=>Wif (x==0) (Dr a λb=>RP b w.heap.size 0 λx=>RI b w'.heap.size 0 λi=>RS b c.heap.size 0 λl h d=>Wif (CZ 1 (↑h:Int) (↑d:Int)) (RV b g.heap.size 0 λj=>Ret 123 #[pt x,vi i,sl (BS l d 1 1) (h-1) (d-1),j] b K) False) (RS a c.heap.size 0 λx i l=>Wp x (Wn 0 i (Ri a x 0 λh=>AW a #[vi 0] 3 λo=>Sw o a.heap.size 0 (vi (wrap .i64 (9+h))) λp=>Dr p λb=>RP b w.heap.size 0 λx=>Wp x (Rp b x 97 λd=>RI b w'.heap.size 0 λx=>RI b a.heap.size 0 λj=>Ret 184 #[pt d,vi x,vi j,func (.func 244) #[] #[bp w,bp c,bp w',bp a,bp g,bp f]] b K)))))):Ret 201 #[pt k,vi cpu,sl AK CL nodesC,vi left,then'] w K:=vcA L7 2 [] func201 h
def vcP244(x0:Bool)(a d c h g q:OA)(w:WD)(K:KV):Prop:=Dr w λf=>Wp a (Rp f a 0 λx=>Wp x (Rs f x 100 λk y C=>Wp d (Rs f d 0 λl z D=>Wp l (Wn 0 z (Ri f l 0 λp=>Wp k (Wn p y (Rp f k (p.toNat*1) λA=>Calls prog 245 #[pt A] f λe w'=>∃(n:Int) (b:Bool),e=rT (.tuple #[vi n,bool b])/\(rd w' (pb a) (po a)=some (.pointer x)/\True)/\Wp a (Rp w' a 0 λx=>Wp c (Ri w' c 0 λB=>Wp h (Ri w' h 0 λr=>AW w' #[vi r] 3 λs=>C0 188 #[pt x,vi B,sl (aD w'.heap.size) 1 1] s λw'=>Wif (!b) (Dr w' λf=>Wp a (Rp f a 0 λx=>Wp c (Ri f c 0 λi=>Wp d (Rs f d 0 λt o j=>Wif (CZ 1 (↑o:Int) (↑j:Int)) (Wp g (Rv f g 0 λu=>Ret 123 #[pt x,vi i,sl (BS t j 1 1) (o-1) (j-1),u] f K)) False)))) (Wp a (Rp w' a 0 λx=>Wp c (Ri w' c 0 λi=>Ret 118 #[pt x,vi i,vi n,func (.func 246) #[] #[pt g,pt a,pt c,pt d,pt q]] w' K)))))))))))))
theorem vc244(x0:Bool)(a b c d f g:OA)(w:WD)(K:KV)(h:vcP244 x0 a b c d f g w K):Ret 244 #[bool x0,pt a,pt b,pt c,pt d,pt f,pt g] w K:=vcA L7 2 [] func244 h
theorem vc246(ok:Bool)(a b c d f:OA)(w:WD)(K:KV)(h:Q (Wif ok (Wp a (Rv w a 0 λx=>AN prog x [vi 1] w λe w'=>∃(v:Value),e=rT v/\K v w')) (Wp b (Rp w b 0 λx=>Wp c (Ri w c 0 λg=>Wp d (Rs w d 0 λh i j=>Wp f (Ri w f 0 λk=>Wp a (Rv w a 0 λl=>Ret 201 #[pt x,vi g,sl h i j,vi (wrap .i64 (k-1)),l] w K)))))))):Ret 246 #[bool ok,pt a,pt b,pt c,pt d,pt f] w K:=vcA L7 2 [2000009] func246 h
theorem J0{a:Nat}(h:D0 a l b){x y:Bk}(hx:x∈l)(hy:y∈l)(h1:x.p<=f)(h2:f<x.p+2^x.o)(h3:y.p<=f)(h4:f<y.p+2^y.o):x=y:=by
 induction l generalizing a with
 | nil=>cases hx
 | cons z l ih=>
  have ht:=h.2.2.2;rcases List.mem_cons.1 hx with e1|hx'
  .rcases List.mem_cons.1 hy with e2|hy'
   .rw [e1,e2]
   .have:=(BI ht hy').1;have:=h.1;subst e1;omega
  .rcases List.mem_cons.1 hy with e2|hy'
   .have:=(BI ht hx').1;have:=h.1;subst e2;omega
   .exact ih ht hx' hy'
theorem B2j(h:0<BD l):∃x∈l,x.g=0:=by
 induction l with
 | nil=>exact absurd h (Nat.lt_irrefl _)
 | cons x l ih=>
  by_cases hx:x.g=0
  .exact⟨x,mcs,hx⟩
  .rw [DR,if_neg hx,za] at h;obtain⟨y,hy,hg⟩:=ih h;exact⟨y,mcm _ hy,hg⟩
theorem GY{n:Nat}(hT:D0 0 l n)(h:FL l 0 high a 0 l'):∃r:Nat,a=r/\r<n/\(∃x∈l,x.g=0/\x.p<=r/\r<x.p+2^x.o)/\(∀y:Bk,y.g=1->(y∈l'↔y∈l\/y=⟨r,0,1⟩))/\BD l'+1=BD l:=by
 rcases h with⟨_,_,h,_⟩|⟨_,_,_,_,_,h,_⟩|⟨o,x,r,h0,h1,hx,hg,_,_,ha,hr,_,hm,hf⟩
 .cases h
 .cases h
 .have:o=0:=by omega
  subst this;have hp:=BI hT hx;have h2:x.p<=r/\r<x.p+2^x.o:=by
   have:=p2 x.o;split at hr <;> omega
  exact⟨r,ha,by omega,⟨x,hx,hg,h2⟩,hm,by simpa using hf⟩
def CK:Mark:=⟨3,0,0,0,0⟩
def B8a(j:Nat):Mark:=⟨4,0,1,j,0⟩
def gfr(S:AR)(i:Nat)(y:Bk):Nat:=(AU S.c i).toNat+y.p
def B7r(rt lf:Nat)(pg:Nat->Option Nat)(hd:Option Nat)(f:Nat):Prop:=f=rt\/f=lf\/(∃j,pg j=some f)\/hd=some f
def CY(n:Nat)(f:Nat->Nat):Nat:=((range n).map f).sum
theorem CQ(n:Nat)(f:Nat->Nat):CY (n+1) f=CY n f+f n:=by unfold CY;rw [List.range_succ,F6,List.sum_append];simp
theorem A54{n:Nat}{f g:Nat->Nat}(h:∀i,i<n->f i=g i):CY n f=CY n g:=by
 induction n with
 | zero=>rfl
 | succ n ih=>rw [CQ,CQ,ih λi hi=>h i (by omega),h n (by omega)]
theorem HE{n:Nat}{f:Nat->Nat}{v:Nat}(hi:i<n):CY n (upd f i v)+f i=CY n f+v:=by
 induction n with
 | zero=>omega
 | succ n ih=>
  rw [CQ,CQ];by_cases h:i=n
  .subst h;rw [AF,A54 (g:=f) λj hj=>AI _ _ (by omega)];omega
  .rw [AI _ _ (Ne.symm h)];have:=ih (by omega);omega
structure LSt(S:AR)(rt lf:Nat)(pg:Nat->Option Nat)(hd:Option Nat)(cnt:Nat):Prop where
 by':ByR S.by'
 rl:rt<S.n/\lf<S.n/\rt≠lf
 sp:∃b,S.sp=λi=>if i=1 then some b else none
 root:S.root 1=rt
 w0:wdF S.by' S.n rt 0=1+4*(lf:Int)
 wz:∀j:Int,1<=j->j<=31->wdF S.by' S.n rt j=0
 wl:∀j:Nat,j<32->wdF S.by' S.n lf j=match pg j with|some f=>1+4*(f:Int)|none=>0
 pgo:∀j f,pg j=some f->j<32/\f<S.n/\f≠rt/\f≠lf/\hd≠some f
 inj:∀j j' f,pg j=some f->pg j'=some f->j=j'
 hdr:∀f,hd=some f->f<S.n/\f≠rt/\f≠lf
 rof1:∀j f,pg j=some f->S.rof f=(1,(j:Int))
 rof2:∀f,f<S.n->(S.rof f).1≠0->∃j,pg j=some f
 rat1:∀kk v,S.rat.lookup kk=some v->∃j f,kk=(1,((j:Nat):Int))/\pg j=some f/\v=vi f
 rat2:∀j f,pg j=some f->(S.rat.lookup (1,(j:Int))).isSome=true
 ck:∀i,i<S.AK->FM (S.ring i) (S.cof i)
 ckm:∀i,i<S.AK->∀x:Int,x∈S.ring i↔∃j f,pg j=some f/\x=(f:Nat)/\AU S.c i<=f/\(f:Int)<AU S.c (i+1)
 mk1:S.mks rt=CK/\S.mks lf=CK
 mk2:∀j f,pg j=some f->S.mks f=B8a j
 mk3:∀f,f<S.n->¬B7r rt lf pg hd f->S.mks f=CX
 tk1:∀i,i<S.AK->∀y∈S.L i,y.g=1->y.o=0/\B7r rt lf pg hd (gfr S i y)
 tk2:∀f,B7r rt lf pg hd f->∃i y,i<S.AK/\y∈S.L i/\y.g=1/\gfr S i y=f
 cp:((range 32).filter λj=>(pg j).isSome).length=cnt
 cr:(owns S.n S.rof).length=cnt
 cc:CY S.AK (λi=>(S.ring i).length)=cnt
 cf:CY S.AK (λi=>BD (S.L i))+cnt+2+(if hd.isSome then 1 else 0)=S.n
 held:S.held=λ_=>[]
 fli:S.fli=replicate S.AS (-1)
 lh:S.lh=λ_=>0
section
variable {w:WD}{k:Nat}{S:AR}{fp:Prt->Nat->Prop}{rt lf cnt:Nat}{pg:Nat->Option Nat}
theorem AO.IQ(h:AO w k S fp)(hi:i<S.AK):D0 0 (S.L i) (S.c (18+i)).toNat:=by
 obtain⟨Z,hc,hk⟩:=h.zn;have:=(Z.iv i (by omega)).tl;unfold Zs.n at this;rw [hc] at this;exact this
theorem AO.fst(h:AO w k S fp)(hi:i<S.AK):0<=AU S.c i/\AU S.c (i+1)=AU S.c i+S.c (18+i)/\4<=S.c (18+i)/\S.c (18+i)<=128/\AU S.c (i+1)<=S.n:=by
 have hn:=h.n4;have hs:=h.BQ.1.2.2;have h1:=JN h.my (i:=0) (j:=i) (by omega) (by unfold AR.AK at hi;omega);have h2:=JN h.my (i:=i+1) (j:=(S.c 0).toNat) (by unfold AR.AK at hi;omega) (nlr _);have h3:=(h.my.2.2.2.2.2.1 i (by unfold AR.AK at hi;omega)).1;exact⟨h1,rfl,h3.1,h3.2,by omega⟩
end
section
variable {w:WD}{k:Nat}{S:AR}{fp:Prt->Nat->Prop}{rt lf cnt:Nat}{pg:Nat->Option Nat}{hd:Option Nat}
theorem JI{mk:Nat->Mark}{n:Nat}{x:Mark}(hf:f<n)(hx:B46 x=true):smE n (f:Int) x=0/\smS mk n (f:Int) x=upd mk f x:=by
 have:smE n (f:Int) x=0:=by unfold smE;rw [if_neg (by omega),if_pos hx]
 refine⟨this,?_⟩;unfold smS;rw [if_pos this,tnc]
end
theorem A1f{of:Nat->Int×Int}{p:Nat}{v:Int×Int}(hv:v.1≠0):∀{n:Nat},(of p).1=0->(owns n (upd of p v)).length=(owns n of).length+(if p<n then 1 else 0)
 | 0,_=>by simp [owns]
 | n+1,h=>by
  have ih:=A1f hv (n:=n) h;rw [H6,H6,lap,lap,ih];by_cases e:n=p
  .subst e;simp [AF,h,hv]
  .have e2:upd of p v n=of n:=AI _ _ e;rw [e2];have:(if p<n+1 then 1 else 0)=(if p<n then 1 else 0):=by
    by_cases h1:p<n
    .rw [if_pos h1,if_pos (by omega)]
    .rw [if_neg h1,if_neg (by omega)]
   rw [this];omega
section
variable {w:WD}{k:Nat}{S:AR}{fp:Prt->Nat->Prop}{rt lf cnt:Nat}{pg:Nat->Option Nat}
theorem A6l{M:List ((Int×Int)×Value)}{a b:Int×Int}{v:Value}:(M++[(a,v)]).lookup b=match M.lookup b with|some x=>some x|none=>if b=a then some v else none:=by
 rw [List.lookup_append]
 cases M.lookup b with
 | some x=>rfl
 | none=>
  by_cases h:b=a
  .subst h;simp
  .have:(b==a)=false:=by simpa using h
   simp [List.lookup_cons,this,h]
theorem A3b{M:List (Int×Value)}{b:Int}{v:Value}:(M++[(a,v)]).lookup b=match M.lookup b with|some x=>some x|none=>if b=a then some v else none:=by
 rw [List.lookup_append]
 cases M.lookup b with
 | some x=>rfl
 | none=>
  by_cases h:b=a
  .subst h;simp
  .have:(b==a)=false:=by simpa using h
   simp [List.lookup_cons,this,h]
end
theorem A06{e:Int}(hs:0<BD l)(T:FL l 0 high a e l'):e=0:=by
 rcases T with⟨h,_⟩|⟨o,h0,_,h,_⟩|⟨_,_,_,_,_,_,_,_,_,_,_,h,_⟩
 .omega
 .obtain⟨x,hx,hg⟩:=B2j hs;have:=h x hx hg;omega
 .exact h
section
variable {w w':WD}{k:Nat}{S:AR}{fp:Prt->Nat->Prop}
theorem B3a(h:AO w k S fp)(hc:cpu<S.AS)(fr:Int)(hl:∀i,i<S.AS->(S.held i).length<=100000) :
 Calls prog 241 #[AP k,vi cpu,vi fr] w λe w'=>e=.returned (.tuple #[])/\Step w w' k (FE S (upd S.held cpu (S.held cpu++[fr]))) fp:=by
 refine(B18 h cpu fr hl).AE ?_;rintro e w' ⟨he,kk,fp',C',f'⟩;rw [if_pos (by omega),tnc] at C';exact⟨he,kk.AE λx _ hx=>⟨_,hx⟩,fp',C',f'⟩
theorem KU(h:AO w k S fp)(hi:i<S.AK):Calls prog 11 #[AP S.pz,vi i] w λe w'=>e=.returned (vi (BD (S.L i):Nat))/\w'=w:=by
 obtain⟨Z,hc,hk⟩:=h.zn;refine(A0h Z i).AE ?_;rintro e w' ⟨he,hw⟩;rw [A5u (by omega)] at he;exact⟨he,hw⟩
def O4(role:Int):Mark:=⟨role,0,0,0,0⟩
def AR.taken(S:AR)(cpu i:Nat)(f:Nat)(l':List Bk)(role:Int):AR:=
 {S with L:=upd S.L i l',by':=DA S.by' (f*256) 256,mks:=upd S.mks f (O4 role),held:=upd S.held cpu (S.held cpu++[(f:Int)])}
theorem A7y(h:AO w k S fp)(hc:cpu<S.AS)(hi:i<S.AK){role:Int}(hr:1<=role/\role<=5)(high:Bool)(hl:∀i,i<S.AS->(S.held i).length<=100000) :
 Calls prog 196 #[AP k,vi cpu,vi i,.int .u8 role,.bool high] w λe w'=>
  ((BD (S.L i):Int)<=S.c 91/\e=.returned (.tuple #[vi 0,.bool false])/\AB AD w w')\/
  (S.c 91<(BD (S.L i):Int)/\∃(f:Nat) (l':List Bk),e=.returned (.tuple #[vi f,.bool true])/\AU S.c i<=f/\(f:Int)<AU S.c (i+1)/\FL (S.L i) 0 high ((f:Int)-AU S.c i) 0 l'/\Step w w' k (S.taken cpu i f l' role) fp):=by
 refine Calls.ret (vc196 _ cpu i role high w _ ?_);have hn:=h.n4;have hfi:=h.fst hi;have hm0:=h.my;unfold Q;intro w1 e1;have k1:=kdr e1;have C1:=h.k k1;have r91:∀{W:WD},AB AD w W->rd W k (0+91)=some (vi (S.c 91)):=λkk=>by
  obtain⟨o,_⟩:AX _ k (cfg S.c++GL S)/\_:=(h.k kk).at' .core;rw [za,o.rd,gal (by simp [cfg,AM])];unfold cfg;rw [AZ _ _ _ _ _ (by omega),za]
 refine AA rfl ⟨_,by have:=C1.rtW kr (j:=1) rfl;exact this,AA rfl ⟨_,r91 k1,(KU C1 hi).AE ?_⟩⟩;rintro _ w2 ⟨rfl,hw2⟩;rw [hw2];refine⟨_,rfl,⟨r91 k1,trivial⟩,AH (λhc2=>.inl ⟨by simpa using hc2,rfl,k1⟩) (λhc2=>?_)⟩;have hgt:S.c 91<(BD (S.L i):Int):=by simpa using hc2
 have hpos:0<BD (S.L i):=by have:=hm0.2.2.2.2.2.2.2.1;omega
 refine AA rfl ⟨_,by have:=C1.rtW kr (j:=1) rfl;exact this,(II C1 hi 0 high).AE ?_⟩;rintro _ w3 ⟨a,er,l',rfl,T3,R⟩;obtain rfl:=A06 hpos R;obtain⟨r,rfl,hrn,_⟩:=GY (h.IQ hi) R;have ef:AU S.c i+(r:Int)=(((AU S.c i).toNat+r:Nat):Int):=by omega
 generalize hf:(AU S.c i).toNat+r=f at *;have hfn:f<S.n:=by omega
 obtain⟨fp3,C3,f3⟩:=T3.ex;have T03:=(h.JW k1).tr (λ_ _=>.inl) T3;have f03:∀p x,fp3 p x->fp p x\/rng w w3 x:=λp x hx=>(f3 p x hx).imp id λe=>⟨by have:=k1.sz;have:=e.1;omega,e.2⟩;rw [if_pos rfl,ef];refine⟨_,_,rfl,AL rfl (AA rfl ⟨_,by have:=C3.rtW kr (j:=0) rfl;exact this,(A87 C3 (f:=f) hfn).AE ?_⟩)⟩;rintro _ w4 ⟨rfl,T4⟩;obtain⟨fp4,C4,f4⟩:=T4.ex;have T04:=T03.tr f03 T4;have f04:∀p x,fp4 p x->fp p x\/rng w w4 x:=λp x hx=>by
  have s3:=T03.kp.sz;have s4:=T4.kp.sz;rcases f4 p x hx with h1|h1
  .exact(f03 p x h1).imp id λe=>⟨e.1,by have:=e.2;omega⟩
  .exact .inr ⟨by have:=h1.1;omega,h1.2⟩
 obtain⟨hse,hss⟩:=JI (mk:=S.mks) (n:=S.n) (x:=O4 role) hfn (by unfold B46 O4;simp;omega);refine⟨_,rfl,AA rfl ⟨_,by have:=C4.rtW kr (j:=0) rfl;exact this,(EP C4 f (O4 role)).AE ?_⟩⟩;rintro _ w5 ⟨rfl,T5⟩;obtain⟨fp5,C5,f5⟩:=T5.ex;have T05:=T04.tr f04 T5;have f05:∀p x,fp5 p x->fp p x\/rng w w5 x:=λp x hx=>by
  have s3:=T04.kp.sz;have s4:=T5.kp.sz;rcases f5 p x hx with h1|h1
  .exact(f04 p x h1).imp id λe=>⟨e.1,by have:=e.2;omega⟩
  .exact .inr ⟨by have:=h1.1;omega,h1.2⟩
 refine⟨_,rfl,(B3a C5 (cpu:=cpu) hc f hl).AE ?_⟩;rintro _ w6 ⟨rfl,T6⟩;refine⟨rfl,.inr ⟨hgt,f,l',rfl,by omega,by omega,?_,?_⟩⟩
 .rw [show(f:Int)-AU S.c i=(r:Nat) by omega];exact R
 .have T06:=T05.tr f05 T6;have e:smS S.mks S.n f (O4 role)=upd S.mks f (O4 role):=hss;have:FE ((((S.LA (upd S.L i l')).JQ (DA S.by' (f*256) 256))).I8 (smS S.mks S.n f (O4 role))) (upd S.held cpu (S.held cpu++[(f:Int)]))=S.taken cpu i f l' role:=by rw [e];rfl
  rw [<- this];exact T06
end
structure Nds(w:WD)(FR:NP)(a:OA)(l c:Nat)(xs:List Nat):Prop where
 len:l=xs.length
 lc:l<=c
 mx:c<=maxLen
 el:0<l->∃b o,a=some ⟨b,o,none⟩/\FR b/\∀i x,xs[i]? = some x->rd w b (o+i)=some (vi (x:Nat))
theorem Nds.to{w:WD}{FR G:NP}{a:OA}{l:Nat}(h:Nds w FR a l c xs)(k:AB (λx=>¬FR x) w w2)(hG:∀x,FR x->G x):Nds w2 G a l c xs:=
 ⟨h.len,h.lc,h.mx,λhl=>by
  obtain⟨b,o,e,hb,hr⟩:=h.el hl;exact⟨b,o,e,hG b hb,λi x hx=>k.AV (hr i x hx) λhn=>hn hb⟩⟩
theorem Nds.tail{w:WD}{FR:NP}{a:OA}{l:Nat}{x:Nat}(h:Nds w FR a l c (x::xs)):Nds w FR (BS a c 1 1) (l-1) (c-1) xs:=by
 have hl:=h.len;have hc:=h.lc;have hm:=h.mx;rw [List.length_cons] at hl;refine⟨by omega,by omega,by omega,λhp=>?_⟩;obtain⟨b,o,rfl,hb,hr⟩:=h.el (by omega);refine⟨b,o+1,?_,hb,λi y hy=>?_⟩
 .unfold BS;rw [if_neg (by omega)]
  show some (Addr.add ⟨b,o,none⟩ 1)=_
  rw [Addr.add_lit]
 .rw [Nat.add_assoc,Nat.add_comm 1 i];exact hr (i+1) y (by simpa using hy)
theorem GF{v:Value}(h:isF v=true):okF v=true:=by cases v <;> simp [isF] at h;rfl
structure Mv(k:Nat)(fp:Prt->Nat->Prop)(FR:NP)(w:WD)(S':AR)(fp':Prt->Nat->Prop)(w':WD):Prop where
 X:Ctx k S' fp' FR w'
 L:Ltr w fp FR w' fp'
 K:AB (λx=>∃p,fp p x) w w'
 F:∀x,Fo fp' FR x->Fo fp FR x\/rng w w' x
section
variable {k:Nat}{FR:NP}
theorem Ctx.mv{w:WD}{S':AR}(h:Ctx k S fp FR w)(T:Step w w' k S' fp):∃fp',Mv k fp FR w S' fp' w':=by
 obtain⟨fp',a,b,c,d⟩:=h.step T;exact⟨fp',a,b,c,d⟩
theorem Ctx.mv0{w:WD}(h:Ctx k S fp FR w)(kk:AB AD w w'):Mv k fp FR w S fp w':=
 ⟨h.kept kk,⟨kk.AE λ_ _ e=>e.elim,λ_ _ h=>.inl h⟩,kk.AE λ_ _ e=>e.elim,λ_ h=>.inl h⟩
theorem Mv.tr{w w1:WD}{S1 S2:AR}{fp1 fp2:Prt->Nat->Prop}(h:Mv k fp FR w S1 fp1 w1)(h2:Mv k fp1 FR w1 S2 fp2 w2):Mv k fp FR w S2 fp2 w2:=by
 have s1:=h.K.sz;have s2:=h2.K.sz;refine⟨h2.X,h.L.trans h2.L,h.K.trans h2.K λx hx ⟨p,hp⟩=>?_,λx hx=>?_⟩
 .rcases h.L.fp p x hp with h3|h3
  .exact⟨p,h3⟩
  .omega
 .rcases h2.F x hx with h3|h3
  .rcases h.F x h3 with h4|h4
   .exact .inl h4
   .exact .inr ⟨h4.1,by have:=h4.2;omega⟩
  .exact .inr ⟨by have:=h3.1;omega,h3.2⟩
end
def AR.given(S:AR)(cpu i f j:Nat)(l':List Bk):AR:=
 {S with held:=upd S.held cpu (del (S.held cpu) j),L:=upd S.L i l',mks:=smS S.mks S.n f CX}
theorem B3c{w:WD}{k:Nat}(h:AO w k S fp)(hc:cpu<S.AS){fr:Int}(hj:DB (S.held cpu) fr j)(hl:∀i,i<S.AS->(S.held i).length<=100000) :
 Calls prog 186 #[AP k,vi cpu,vi fr] w λe w'=>e=.returned (.tuple #[])/\Step w w' k (FE S (upd S.held cpu (del (S.held cpu) j))) fp:=by
 refine(B2z h cpu fr hl).AE ?_;rintro e w' ⟨he,kk,fp',f',C',hf,⟨i,j',e1,h1,h2,rfl⟩|⟨h1,_⟩⟩
 .obtain rfl:cpu=i:=by omega
  have:j'=j:=by
   rcases Nat.lt_trichotomy j' j with e|e|e
   .exact absurd h2.1 (hj.2 j' e)
   .exact e
   .exact absurd hj.1 (h2.2 j e)
  subst this;exact⟨he,kk.AE λx _ hx=>⟨_,hx⟩,fp',C',hf⟩
 .exact absurd hj.1 (h1 cpu rfl hc j)
structure Bx(w0 w:WD)(l:List (Nat×Value)):Prop where
 k:AB AD w0 w
 o:∀b v,(b,v)∈l->AX w b [v]/\w0.heap.size<=b
theorem Bx.nil(w:WD):Bx w w []:=⟨AB.refl _ _,λ_ _ h=>by cases h⟩
section
variable {w0 w w1:WD}{l:List (Nat×Value)}
theorem Bx.kk(h:Bx w0 w l)(k:AB AD w w1):Bx w0 w1 l:=⟨h.k.tr k,λb v hm=>⟨(h.o b v hm).1.k k,(h.o b v hm).2⟩⟩
theorem Bx.dr(h:Bx w0 w l)(e:w1=w.drew):Bx w0 w1 l:=h.kk (kr.dr e)
theorem Bx.al{v:Value}(h:Bx w0 w l)(e:w1=w.alloc (.cells [v].toArray t)):Bx w0 w1 ((w.heap.size,v)::l):=by
 have o1:=AG e;have h2:=h.kk (kr.al e);refine⟨h2.k,λb u hm=>?_⟩;rcases List.mem_cons.1 hm with e|hm
 .cases e;exact⟨o1,h.k.sz⟩
 .exact h2.o b u hm
theorem Bx.al2{v v':Value}(h:Bx w0 w l)(e:w1=w.alloc (.cells [v].toArray t))(e2:w2=st w1 w.heap.size 0 v'):wr w1 w.heap.size 0/\Bx w0 w2 ((w.heap.size,v')::l):=by
 have o1:=AG e;have k1:=kal e;have o2:=o1.s1 e2;have k2:AB (·=w.heap.size) w1 w2:=e2▸kr.st (.inl rfl);have k12:AB AD w w2:=BO k1 k2 λy e=>by omega
 have h2:=h.kk k12;refine⟨o1.wr Nat.zero_lt_one,h2.k,λb u hm=>?_⟩;rcases List.mem_cons.1 hm with e|hm
 .cases e;exact⟨o2,h.k.sz⟩
 .exact h2.o b u hm
theorem Bx.wr0{v:Value}(e:w1=w.alloc (.cells [v].toArray t)):wr w1 w.heap.size 0:=(AG e:AX w1 w.heap.size [v]).wr Nat.zero_lt_one
theorem Bx.rd(h:Bx w0 w l){v:Value}(hm:(b,v)∈l):Eng.rd w b 0=some v:=by rw [(h.o b v hm).1.rd];rfl
theorem Bx.rr{FR:NP}{W:WD}(h:Bx w0 w l)(k:AB (λx=>¬(FR x\/rng w0 w x)) w W){v:Value}(hm:(b,v)∈l):Eng.rd W b 0=some v:=by
 obtain⟨o,hb⟩:=h.o b v hm;rw [(o.kx k λhn=>hn (.inr ⟨hb,o.lt⟩)).rd];rfl
end
theorem _root_.Go.Eng.AB.oo{F:NP}{w w1:WD}(h:AB (λx=>¬F x) w w1)(h2:AB (λx=>¬F x) w1 w2):AB (λx=>¬F x) w w2:=h.trans h2 λ_ _ e=>e
theorem _root_.Go.Eng.AB.none{X:NP}{w w1:WD}(h:AB AD w w1):AB X w w1:=h.AE λ_ _ e=>e.elim
section
variable {k:Nat}{w:WD}{S:AR}{fp:Prt->Nat->Prop}{FR:NP}
theorem B8o{f0:NI}{who:Nat}(X:Ctx k S fp FR w){n:Nat}(hb:AX w b (xs.map λx:Nat=>vi (x:Int)))(hfb:∀p,¬fp p b)(hn:n=xs.length)(hl:xs.length<=100)(hw:who<1000)(nd:xs.Nodup)(hx:∀x∈xs,x<9+S.AK/\S.lh x=who+1)(h0:unl S.lh xs 0=f0) :
 Calls prog 188 #[AP k,vi who,.slice (some ⟨b,0,none⟩) n n] w λe w'=>e=.returned (.tuple #[])/\∃fp',Mv k fp FR w (S.IB f0) fp' w':=by
 refine(A73 X.C hb hfb hn hl hw nd hx).AE ?_;rintro _ w' ⟨rfl,T⟩;rw [h0] at T;exact⟨rfl,X.mv T⟩
end
abbrev AR.C4j(S:AR)(l:List Int):AR:={S with fli:=l}
theorem OC{w:WD}{k:Nat}(h:AO w k S fp)(hc:cpu<S.fli.length):∃a l c,S.vfi=.slice a l c/\isP a=true/\l=S.fli.length/\fp .flight (pb a)/\wr w (pb a) (po a+cpu)/\∀v w',w'=st w (pb a) (po a+cpu) (vi v)->Step w w' k (S.C4j (S.fli.set cpu v)) fp:=by
 have hf:EL S.fli S.vfi (fp .flight) w:=h.at' .flight;obtain⟨a,l,c,hv,R,ho⟩:=hf.ex;obtain⟨x,hx⟩:∃x,S.fli[cpu]? = some x:=⟨_,geg hc⟩;have hp:=(R.rd hx).1;have hb:(slice a l c).ownBlock=some (pb a):=by
  cases a with
  | none=>cases hp
  | some A=>rfl
 refine⟨a,l,c,hv,hp,R.1,ho _ hb,(R.put hc (v:=0) rfl).2.2,λv w' e=>?_⟩;obtain⟨R',kk,_⟩:=R.put hc e;refine h.FD .flight kk (λx e=>ho x e) rfl (λp F w hp hq=>by cases p <;> first|exact hq|exact absurd rfl hp) ⟨⟨_,_,_,hv,R',λx hx=>.inl (ho x hx)⟩,λx hx=>?_⟩;rcases hx with hx|hx
 .exact nll (hf.lt x hx) kk.sz
 .exact hx.2
theorem AO.spc{w:WD}{k:Nat}(h:AO w k S fp)(hb:S.sp i=some b):EX w (fp (.space i)) b (S.root i) (S.pins i):=h.at' (.space i) b hb
theorem vc293(s:OA)(sL sC:Nat)(v0 v1:Int)(w:WD)(K:KV)(h:Q (AW w #[vi v0,vi v1] 263 λw'=>∃(I:Int->Int->WD->Nat->Prop),(∃(n:Nat),I 0 0 w' n)/\∀(n a:Int) (w':WD) (c:Nat),I n a w' c->Wif (decide (a<(↑sL:Int))) (Dr w' λb=>∃(x d:Int),(rd b w.heap.size 0=some (.int .i64 x)/\rd b w.heap.size 1=some (.int .i64 d))/\Wp s (Wn a sL (∃(f g:Int),(rd b (pb s) (po s+a.toNat*2)=some (.int .i64 f)/\rd b (pb s) (po s+a.toNat*2+1)=some (.int .i64 g))/\Wif (x==f&&(d==g&&true)) (K (vi a) b) (Lt c λm=>I n (wrap .i64 (a+1)) b m)))) (K (vi (-1)) w'))):Ret 293 #[sl s sL sC,agg #[vi v0,vi v1]] w K:=vcA L7 2 [] func293 h
theorem vc168(d:OA)(i:Int)(w:WD)(K:KV)(h:Q (gIf (isP d) (isNone d=false) (∃(x:Bool),(isNone d=false->rd w (pb d) (po d+1)=some (.bool x))/\Wif (isNone d||!x) (K (.tuple #[pt none,vi 1]) w) (gIf (isP d) (decide (i<0)=false) (∃(x:OA) (a b:Nat),(decide (i<0)=false->rd w (pb d) (po d)=some (.slice x a b))/\Wif (decide (i<0)||decide (i>=(↑a:Int))) (K (.tuple #[pt none,vi 2]) w) (Wp d (Rs w d 0 λx c f=>Wp x (Wn i c (K (.tuple #[pt (some (Addr.mk (pb x) (po x+i.toNat*256) none)),vi 0]) w))))))))):Ret 168 #[pt d,vi i] w K:=vcA L2 3 [] func168 h
theorem vc126(t:OA)(w:WD)(K:KV)(h:Q (Wif (isNone t) (K (vi 0) w) (Wp t (Rs w t 0 λx a b=>K (vi (↑a:Int)) w)))):Ret 126 #[pt t] w K:=vcA L7 2 [] func126 h
section
variable {w:WD}{s fb n:Nat}{of:Nat->Int×Int}
theorem ER.get(h:ER w s fb n of)(hi:i<n):rd w fb (i*2)=some (vi (of i).1)/\rd w fb (i*2+1)=some (vi (of i).2):=by
 have g:∀j,j<2->rd w fb (i*2+j)=(E3 (of i))[j]? := λj hj=>by
  rw [h.fs.rd];exact ES (s:=2) (f:=λi=>E3 (of i)) (λ_ _=>rfl) hi hj
 exact⟨g 0 (by omega),g 1 (by omega)⟩
theorem A4w(h:ER w s fb n of)(hn:n<=1024)(v0 v1:Int) :
 Calls prog 293 #[.slice (some ⟨fb,0,none⟩) n n,.agg #[vi v0,vi v1]] w λe w'=>AB AD w w'/\((∃i:Nat,i<n/\of i=(v0,v1)/\(∀j,j<i->of j≠(v0,v1))/\e=.returned (vi i))\/((∀j,j<n->of j≠(v0,v1))/\e=.returned (vi (-1)))):=by
 refine Calls.ret (vc293 _ n n v0 v1 w _ ?_);unfold Q;intro w1 e1;have o1:=AG e1;have k1:=kal e1;refine⟨λ_ j W N=>∃q:Nat,j=q/\q<=n/\N=n-q/\AB AD w1 W/\∀i,i<q->of i≠(v0,v1),⟨n,0,rfl,Nat.zero_le _,rfl,AB.refl _ _,λi hi=>absurd hi (nlz _)⟩,?_⟩;rintro _ _ w2 _ ⟨q,rfl,hq,rfl,k2,hno⟩;refine AH (λhc w3 e3=>?_) (λhc=>?_)
 .have hql:q<n:=by simp at hc;omega
  have k3:AB AD w1 w3:=k2.dr e3;have o3:=o1.k k3;have K3:=k1.tr k3;have h3:ER w3 s fb n of:=⟨h.so.k K3,h.fs.k K3,h.ne⟩;obtain⟨g0,g1⟩:=h3.get hql;refine⟨v0,v1,⟨by rw [o3.rd];rfl,by rw [o3.rd];rfl⟩,AA rfl (Wi ⟨(of q).1,(of q).2,⟨?_,?_⟩,AH (λhe=>?_) (λhe=>?_)⟩)⟩
  .show rd w3 fb (0+_*2)=_
   rw [tnc,za];exact g0
  .show rd w3 fb (0+_*2+1)=_
   rw [tnc,za];exact g1
  .refine⟨K3,.inl ⟨q,hql,?_,hno,rfl⟩⟩;simp at he;exact Prod.ext he.1.symm he.2.symm
  .refine⟨n-(q+1),by omega,q+1,wzz,hql,rfl,k3,λi hi e=>?_⟩;by_cases h4:i=q
   .subst h4;rw [e] at he;simp at he
   .exact hno i (by omega) e
 .have:q=n:=by simp at hc;omega
  subst this;exact⟨k1.tr k2,.inr ⟨hno,rfl⟩⟩
theorem A7z(h:ER w s fb n of)(hn:n<=1024)(hp:1<=pid/\pid<=8)(hg:0<=page/\page<1024) :
 Calls prog 272 #[AP s,vi pid,vi page] w λe w'=>((∀j,j<n->of j≠(0,0))/\e=.returned (.tuple #[vi 0,vi 9])/\AB AD w w')\/
  (∃i:Nat,i<n/\of i=(0,0)/\(∀j,j<i->of j≠(0,0))/\e=.returned (.tuple #[vi i,vi 0])/\AB (·=fb) w w'/\ER w' s fb n (upd of i (pid,page))):=by
 refine Calls.ret (vc272 _ pid page w _ ?_);unfold Q;have hs:∀{W:WD},AB AD w W->rd W s 0=some (.slice (some ⟨fb,0,none⟩) n n):=λkk=>by rw [(h.so.k kk).rd];rfl
 refine AJ (λ_=>rfl) ⟨true,λ_=>by show rd w s (0+1)=_;rw [h.so.rd];rfl,AL rfl (AL (by simp;omega) (AA rfl ⟨_,_,_,hs kr,(A4w h hn 0 0).AE ?_⟩))⟩;rintro _ w1 ⟨k1,⟨i,hi,h1,h2,rfl⟩|⟨h1,rfl⟩⟩
 .have h3:ER w1 s fb n of:=⟨h.so.k k1,h.fs.k k1,h.ne⟩;have hlen:(D4 n λi=>E3 (of i)).length=n*2:=DE (λ_ _=>rfl);have wr':∀j,j<2->wr w1 fb (i*2+j):=λj hj=>h3.fs.wr (by rw [hlen];omega);refine⟨_,rfl,AL (by simp) (AA rfl ⟨_,_,_,hs k1,AA rfl (Wi ⟨⟨?_,?_⟩,λw2 e2=>?_⟩)⟩)⟩
  .show wr w1 fb (0+_*2)
   rw [tnc,za];exact wr' 0 (by omega)
  .show wr w1 fb (0+_*2+1)
   rw [tnc,za];exact wr' 1 (by omega)
  .have e2:w2=st (st w1 fb (0+Int.toNat (i:Int)*2) (vi pid)) fb (0+Int.toNat (i:Int)*2+1) (vi page):=e2;rw [tnc,za] at e2;have o2:=h3.fs.s2 (o:=i*2+0) (o':=i*2+1) e2
   rw [DN (s:=2) (λ_ _=>rfl) hi (by omega),DN (s:=2) (λj hj=>by
    by_cases e:j=i
    .subst e;rw [AF];rfl
    .rw [AI _ _ e];rfl) hi (by omega),AF] at o2
   have ef:(upd (upd (λi=>E3 (of i)) i ((E3 (of i)).set 0 (vi pid))) i (((E3 (of i)).set 0 (vi pid)).set 1 (vi page)))=λj=>E3 (upd of i (pid,page) j):=by
    funext j;by_cases e:j=i
    .subst e;rw [AF,AF];rfl
    .rw [AI _ _ e,AI _ _ e,AI _ _ e]
   rw [ef] at o2;have k2:AB (·=fb) w1 w2:=kr.s2 e2 (.inl rfl);exact .inr ⟨i,hi,h1,h2,rfl,(k1.AE λ_ _ e=>e.elim).trans k2 λ_ _ e=>e,⟨h3.so.kx k2 h.ne,o2,h.ne⟩⟩
 .exact⟨_,rfl,AA (by simp) (.inl ⟨h1,rfl,k1⟩)⟩
end
def JR(f:NI)(o n:Nat)(g:NI):NI:=λi=>if o<=i/\i<o+n then g (i-o) else f i
theorem B8d{w:WD}{o n N:Nat}{kd:IntKind}{f:NI}(h:AX w b (AQ kd f 0 N))(ho:o+n<=N)(e:w'=F5 w b o (AQ kd g 0 n)):AX w' b (AQ kd (JR f o n g) 0 N)/\AB (·=b) w w':=by
 subst e;refine⟨?_,JF b _ o w⟩;have:=KM b (AQ kd g 0 n) o w _ h;have he:((AQ kd g 0 n).zipIdx o |>.foldl (λc p=>c.set p.2 p.1) (AQ kd f 0 N))=AQ kd (JR f o n g) 0 N:=by
  refine DX (by rw [PZ,AM]) λj hj=>?_;rw [IC _ _ _ _ (by rw [AM,AM];omega),AM];unfold JR;by_cases h1:o<=j/\j<o+n
  .rw [if_pos h1,if_pos h1,AZ _ _ _ _ _ (by omega),za]
  .rw [if_neg h1,if_neg h1,AZ _ _ _ _ _ hj,za]
 rw [he] at this;exact this
section
variable {w:WD}{d db n:Nat}{f:NI}
theorem A1v(h:LW w d db n f)(hi:i<n)(hn:n<=1024):Calls prog 168 #[AP d,vi i] w λe w'=>e=.returned (.tuple #[.pointer (some ⟨db,i*256,none⟩),vi 0])/\w'=w:=by
 refine Calls.ret (vc168 _ i w _ ?_);have h0:rd w d 0=some (.slice (some ⟨db,0,none⟩) n n):=by rw [h.so.rd];rfl
 unfold Q;refine AJ (λ_=>rfl) ⟨true,λ_=>by show rd w d (0+1)=_;rw [h.so.rd];rfl,AL rfl (AJ (λ_=>rfl) ⟨_,_,_,λ_=>h0,AL (by simp;omega) (AA rfl ⟨_,_,_,h0,AA rfl (Wi ⟨?_,rfl⟩)⟩)⟩)⟩
 show Ending.returned (.tuple #[.pointer (some ⟨db,0+Int.toNat (i:Int)*256,none⟩),vi 0])=_
 rw [tnc,za]
theorem A5b(h:LW w d db n f)(hi:i<n)(hn:n<=1024){o:Nat}(hg:BB w b o (AQ .u8 g 0 256)) :
 Calls prog 294 #[AP d,vi i,.slice (some ⟨b,o,none⟩) 256 c,.bool false] w λe w'=>e=.returned (vi 0)/\AB (·=db) w w'/\LW w' d db n (JR f (i*256) 256 g):=by
 refine Calls.ret (vc294 _ i _ 256 c false w _ ?_);unfold Q;refine(A1v h hi hn).AE ?_;rintro _ _ ⟨rfl,rfl⟩;refine⟨_,_,rfl,AL rfl (AL rfl (AL rfl (AA rfl (AA rfl ⟨g,hg,AA rfl ⟨?_,λw' e=>?_⟩⟩))))⟩
 .exact h.bs.DJ _ (by rw [AM,AM];show i*256+256<=_;omega)
 .obtain⟨o',k'⟩:=B8d (o:=i*256) (n:=256) h.bs (by omega) e;exact⟨rfl,k',⟨h.so.kx k' h.ne,o',h.ne⟩⟩
end
section
variable {w:WD}{m bb mb n:Nat}{c:NI}{by':NI}{mk:Nat->Mark}
theorem A9h(h:BU w m bb mb c n by' mk)(hn:n<=1024)(hf:f<n) :
 Calls prog 295 #[AP m,vi f] w λe w'=>e=.returned (.slice (some ⟨bb,f*256,none⟩) 256 256)/\w'=w:=by
 refine Calls.ret (vc295 _ f w _ ?_);have h95:rd w m (0+95)=some (.slice (some ⟨mb,0,none⟩) n n):=by rw [za];exact h.r95
 have h94:rd w m (0+94)=some (.slice (some ⟨bb,0,none⟩) (n*256) (n*256)):=by rw [za];exact h.r94
 unfold Q;refine AJ (λ_=>rfl) ⟨_,_,_,λ_=>h95,AL rfl (AJ (λ_=>rfl) ⟨_,_,_,λ_=>h95,AL (by simp;omega) (AA rfl ⟨_,_,_,h94,?_⟩)⟩)⟩;rw [wi (x:=(f:Int)+1) (by omega),wi (x:=(f:Int)*256) (by omega),wi (x:=((f:Int)+1)*256) (by omega)];refine AA BR (AA BR ?_);rw [show Int.toNat ((f:Int)*256)=f*256 by omega,show Int.toNat (((f:Int)+1)*256)=f*256+256 by omega,show f*256+256-f*256=256 by omega];have:BS (some ⟨bb,0,none⟩) (f*256+256) (f*256) 1=some ⟨bb,f*256,none⟩:=by
  unfold BS;rw [if_neg (by omega),mo]
  show some (Addr.add ⟨bb,0,none⟩ (f*256))=_
  rw [Addr.add_lit,za]
 rw [this];exact⟨rfl,rfl⟩
theorem BU.run(h:BU w m bb mb c n by' mk)(hf:f<n):BB w bb (f*256) (AQ .u8 (λi=>by' (f*256+i)) 0 256):=
 h.bs.run _ λj hj=>by rw [AZ _ _ _ _ _ (by omega),za]
end
section
variable {w w':WD}{k:Nat}{S:AR}{fp:Prt->Nat->Prop}
abbrev AR.C4k(S:AR)(f:NI):AR:={S with dv:=f}
abbrev AR.C0q(S:AR)(f:Nat->Int×Int):AR:={S with sof:=f}
theorem A5i(h:AO w k S fp)(hi:i<S.AY)(hf:f<S.n){bb:Nat}(hb:BB w bb (f*256) (AQ .u8 (λi=>S.by' (f*256+i)) 0 256)) :
 Calls prog 294 #[AP S.pd,vi i,.slice (some ⟨bb,f*256,none⟩) 256 256,.bool false] w λe w'=>e=.returned (vi 0)/\Step w w' k (S.C4k (JR S.dv (i*256) 256 λj=>S.by' (f*256+j))) fp:=by
 obtain⟨db,D,f1,f2⟩:∃db,LW w S.pd db S.AY S.dv/\fp .dev S.pd/\fp .dev db:=h.at' .dev;have hs:=h.BQ.2.2.1;refine(A5b D hi hs hb).AE ?_;rintro e w' ⟨he,kk,D'⟩;exact⟨he,h.FD .dev kk (λx e=>e▸f2) rfl (λp F w hp hq=>by cases p <;> first|exact hq|exact absurd rfl hp) ⟨db,D',.inl f1,.inl f2⟩⟩
theorem A88(h:AO w k S fp)(hf:f<S.n) :
 Calls prog 295 #[AP S.pm,vi f] w λe w'=>w'=w/\∃bb,e=.returned (.slice (some ⟨bb,f*256,none⟩) 256 256)/\BB w bb (f*256) (AQ .u8 (λi=>S.by' (f*256+i)) 0 256):=by
 obtain⟨bb,mb,M,_⟩:=h.mem;refine(A9h M h.n4.2.2 hf).AE ?_;rintro e w' ⟨he,hw⟩;exact⟨hw,bb,he,M.run hf⟩
theorem B23(h:AO w k S fp)(hp:1<=pid/\pid<=8)(hg:0<=page/\page<1024) :
 Calls prog 272 #[AP S.ps,vi pid,vi page] w λe w'=>((∀j,j<S.AY->S.sof j≠(0,0))/\e=.returned (.tuple #[vi 0,vi 9])/\AB AD w w')\/
  (∃i:Nat,i<S.AY/\S.sof i=(0,0)/\e=.returned (.tuple #[vi i,vi 0])/\Step w w' k (S.C0q (upd S.sof i (pid,page))) fp):=by
 obtain⟨fb,D,f1,f2⟩:∃fb,ER w S.ps fb S.AY S.sof/\fp .AY S.ps/\fp .AY fb:=h.at' .AY;have hs:=h.BQ.2.2.1;refine(A7z D hs hp hg).AE ?_;rintro e w' (h1|⟨i,hi,h1,_,he,kk,D'⟩)
 .exact .inl h1
 .exact .inr ⟨i,hi,h1,he,h.FD .AY kk (λx e=>e▸f2) rfl (λp F w hp hq=>by cases p <;> first|exact hq|exact absurd rfl hp) ⟨fb,D',.inl f1,.inl f2⟩⟩
end
theorem vc316(k:OA)(pid page:Int)(w:WD)(K:KV)(h:Q (Wif (isNone k) (K (.tuple #[vi 0,vi 1]) w) (Wif (decide (pid<1)||decide (pid>8)) (K (.tuple #[vi 0,vi 7]) w) (Wp k (Wn pid 9 (RP w (pb k) (po k+105+pid.toNat*1) λx=>Wif (isNone x) (K (.tuple #[vi 0,vi 7]) w) (∃(I:OA->Int->WD->Prop),(Dr w λa=>Wp k (Rp a k 94 λg=>Wp x (Ri a x 1 λh=>(Calls prog 16 #[pt g,vi h,vi page] a λe w'=>∃(n c d:Int),e=rT (.tuple #[agg #[vu n,vi c],vi d])/\AW w' #[vu 0,vi 0] 69 λf=>(wr f w'.heap.size 0/\wr f w'.heap.size 1)/\St (st f w'.heap.size 0 (vu n)) w'.heap.size 1 (vi c) λo=>I (aD w'.heap.size) d o)/\AW a #[vu 0,vi 0] 69 λw'=>Rt w' (pb x) (po x+1) (.int .i64 h)<|Rt w' (pb k) (po k+94) (.pointer g)<|Calls prog 16 #[pt g,vi h,vi page] w' λe w'=>∃(n c d:Int),e=rT (.tuple #[agg #[vu n,vi c],vi d])/\(wr w' a.heap.size 0/\wr w' a.heap.size 1)/\St (st w' a.heap.size 0 (vu n)) a.heap.size 1 (vi c) λf=>I (aD a.heap.size) d f)))/\∀(p:OA) (n:Int) (w':WD),I p n w'->Dr w' λa=>Wp k (Rp a k 98 λg=>Wp p (Ri a p 1 λh=>Calls prog 117 #[pt g,vi h] a λe w'=>∃(c d:Int) (b:Bool),e=rT (.tuple #[vi c,vi d,bool b])/\gIf (isP p) ((n != 0)=false) (∃(j:Int),((n != 0)=false->rd w' (pb p) (po p)=some (.int .u8 j))/\Wif (n != 0||j != 1||!b||c != pid||d != page) (K (.tuple #[vi 0,vi 7]) w') (Dr w' λa=>Wp k (Rp a k 94 λr=>Wp x (Ri a x 1 λs=>CI 100 #[pt r,vi s,vi page,agg #[vu 0,vi 0]] a λn w'=>Dr w' λa=>Wp k (Rp a k 98 λx=>Wp p (Ri a p 1 λt=>CI 322 #[pt x,vi t] a λn w'=>Dr w' λa=>Wp k (Rs a k 100 λx l u=>Wp p (Ri a p 1 λy=>Wp p (Ri a p 1 λi=>CI 18 #[pt k,vi y] a λn w'=>Rt w' (pb p) (po p+1) (.int .i64 i)<|Rt w' (pb k) (po k+100) (.slice x l u)<|Wp x (Wn n l (Rp w' x (n.toNat*1) λq=>CI 323 #[pt q,vi i] w' λn w'=>Wp p (Ri w' p 1 λx=>K (.tuple #[vi x,vi 0]) w'))))))))))))))))))))):Ret 316 #[pt k,vi pid,vi page] w K:=vcA L3 3 [4000006,100600091,100600100] func316 h
abbrev AR.A52(S:AR)(i:Nat)(page:Int)(f j:Nat):AR:=
 (((S.JQ (stS S.by' S.n (S.root 1) page 0 0)).B4g (upd S.rof f (0,0)) (S.rat.filter λp=>p.1 != S.rof f)).Q0 i (del (S.ring i) j) ((S.cof i).filter λp=>p.1 != (f:Int)))
section
variable {w:WD}{k:Nat}{S:AR}{fp:Prt->Nat->Prop}
set_option maxHeartbeats 2000000 in
theorem A7u(h:AO w k S fp)(hb:S.sp 1=some b)(hby:ByR S.by'){p:Int}(gE:gtE S.by' S.n (S.root 1) p=0)(gK:gtK S.by' S.n (S.root 1) p=1)(gN:gtN S.by' S.n (S.root 1) p=f)(hrof:S.rof f=(1,p))(hfn:f<S.n)
 (hi:i<S.AK) (h1:AU S.c i<=f) (h2:(f:Int)<AU S.c (i+1)) (ok:FM (S.ring i) (S.cof i)) (hj:DB (S.ring i) (f:Int) j) (h32:(S.ring i).length<=100000) :
 Calls prog 316 #[AP k,vi 1,vi p] w λe w'=>e=.returned (.tuple #[vi f,vi 0])/\Step w w' k (S.A52 i p f j) fp:=by
 refine(vc316 _ 1 p w (λv w'=>v=(.tuple #[vi f,vi 0])/\Step w w' k (S.A52 i p f j) fp) ?_).AE ?_
 rotate_left
 .rintro e w' ⟨v,rfl,rfl,h⟩;exact⟨rfl,h⟩
 have hn:=h.n4;have hs:=h.BQ;have esp:∀{W:WD}{S':AR}{fp':Prt->Nat->Prop},AO W k S' fp'->S'.sp 1=some b->rd W k (0+105+Int.toNat 1*1)=some (AP b):=λC e=>by
  have:=C.rt (j:=12) (v:=spV (_)) rfl;rw [e] at this;exact this
 have ert:∀{W:WD}{S':AR}{fp':Prt->Nat->Prop},AO W k S' fp'->S'.sp 1=some b->rd W b (0+1)=some (vi (S'.root 1)):=λ{W S' fp'} C e=>by
  have SP:EX W (fp' (.space 1)) b (S'.root 1) (S'.pins 1):=C.at' (.space 1) b e;obtain⟨_,_,_,_,a1,_⟩:=SP.ex;rw [a1.rd];rfl
 have e94:∀{W:WD},AB AD w W->rd W k (0+94)=some (AP S.pm):=λkk=>h.rtW kk (j:=0) rfl;unfold Q;refine AL rfl (AL rfl (AA rfl (AA rfl ⟨_,esp h hb,AL rfl ⟨λpp n W=>∃b1:Nat,pp=some ⟨b1,0,none⟩/\n=gtE S.by' S.n (S.root 1) p/\AB AD w W/\AX W b1 [.int .u8 (gtK S.by' S.n (S.root 1) p),vi (gtN S.by' S.n (S.root 1) p)]/\w.heap.size<=b1,λw1 e1=>?_,?_⟩⟩)))
 .have k1:=kdr e1;have hs1:=k1.sz;have C1:=h.k k1;refine AA rfl ⟨_,e94 k1,AA rfl ⟨_,ert C1 hb,(OB C1 hby _ p).AE ?_,λw2 e2=>?_⟩⟩
  .rintro _ w2 ⟨rfl,k12⟩;have k2:=k1.tr k12;have hs2:=k2.sz;refine⟨_,_,_,rfl,λw3 e3=>?_⟩;have o3:=AG e3;have k3:=kal e3;refine⟨wr2 o3,λw4 e4=>?_⟩;obtain⟨o4,k4⟩:=JU o3 e4;exact⟨_,rfl,rfl,k2.tr (BO k3 k4 λx e=>by omega),o4,hs2⟩
  .have o2:=AG e2;have k2:AB AD w w2:=k1.al e2;have C2:=h.k k2;refine⟨⟨ert C2 hb,trivial⟩,⟨e94 k2,trivial⟩,(OB C2 hby _ p).AE ?_⟩;rintro _ w3 ⟨rfl,k23⟩;have o3:=o2.k k23;refine⟨_,_,_,rfl,wr2 o3,λw4 e4=>?_⟩;obtain⟨o4,k4⟩:=JU o3 e4;exact⟨_,rfl,rfl,BO (k2.tr k23) k4 λx e=>by omega,o4,hs1⟩
 rintro _ _ w1 ⟨b1,rfl,rfl,k1,o1,hb1⟩;intro w2 e2;have k2:AB AD w w2:=k1.dr e2;have o2:=o1.dr e2;have C2:=h.k k2;obtain⟨r0,r1⟩:=rd2 o2;have hkb:∀{W:WD},AB (λx=>∃p,fp p x) w2 W->AX W b1 [.int .u8 (gtK S.by' S.n (S.root 1) p),vi (gtN S.by' S.n (S.root 1) p)]:=λkk=>o2.kx kk λ⟨p,hp⟩=>by have:=(h.lt p _ hp).2;omega
 refine AA rfl ⟨_,h.rtW k2 (j:=4) rfl,AA rfl ⟨_,r1,?_⟩⟩;rw [gN];refine(KT C2 hfn).AE ?_;rintro _ w3 ⟨rfl,k3⟩;have K3:=k2.tr k3;have o3:=o2.k k3;refine⟨_,_,_,rfl,AJ (λ_=>rfl) ⟨gtK S.by' S.n (S.root 1) p,(λ_=>(rd2 o3).1),AL (by rw [gE,gK,hrof];simp) λw4 e4=>?_⟩⟩;have K4:AB AD w w4:=K3.dr e4;have k24:AB AD w2 w4:=k3.dr e4;have C4:=h.k K4;have S4:=h.JW K4;refine AA rfl ⟨_,e94 K4,AA rfl ⟨_,ert C4 hb,(A1w C4 hby _ p 0 0).AE ?_⟩⟩;rintro _ w5 ⟨rfl,T5⟩;have S5:=S4.tr (λ_ _=>.inl) T5;obtain⟨fp5,C5,f5'⟩:=T5.ex;have f5:∀p x,fp5 p x->fp p x\/rng w w5 x:=λp x hx=>(f5' p x hx).imp id λe=>⟨by have:=K4.sz;have:=e.1;omega,e.2⟩;have hb4:b1<w4.heap.size:=(o2.k k24).lt;have nb5:∀p,¬fp5 p b1:=λp hp=>by
  rcases f5' p _ hp with h9|h9
  .have:=(h.lt p _ h9).2;omega
  .have:=h9.1;omega
 have kb5:AB (λx=>∃p,fp p x) w2 w5:=(k24.AE λ_ _ e=>e.elim).trans T5.kp λ_ _ e=>e;refine⟨_,rfl,λw6 e6=>?_⟩;have k56:=kdr e6;have C6:=C5.k k56;have S6:=S5.tr f5 (C5.JW k56);have f6:∀p x,fp5 p x->fp p x\/rng w w6 x:=λp x hx=>(f5 p x hx).imp id λe=>⟨e.1,by have:=k56.sz;have:=e.2;omega⟩;have kb6:=kb5.trans (k56.AE λ_ _ e=>e.elim) λx _ (e:∃p,fp p x)=>e;have o6:=hkb kb6;rw [gN] at o6;refine AA rfl ⟨_,C5.rtW k56 (j:=4) rfl,AA rfl ⟨_,(rd2 o6).2,(A5h C6 (i:=f) hfn (by show(S.rof f).1≠0;rw [hrof];exact(by decide:(1:Int)≠0))).AE ?_⟩⟩;rintro _ w7 ⟨rfl,T7⟩;have S7:=S6.tr f6 T7;obtain⟨fp7,C7,f7'⟩:=T7.ex;have s26:=S6.kp.sz;have f7:∀p x,fp7 p x->fp p x\/rng w w7 x:=λp x hx=>by
  rcases f7' p x hx with h9|h9
  .exact(f6 p x h9).imp id λe=>⟨e.1,by have:=T7.kp.sz;have:=e.2;omega⟩
  .exact .inr ⟨by have:=h9.1;omega,h9.2⟩
 have o7:=o6.kx T7.kp λ⟨p,hp⟩=>nb5 p hp;have hb6:b1<w6.heap.size:=o6.lt;have nb7:∀p,¬fp7 p b1:=λp hp=>by
  rcases f7' p _ hp with h9|h9
  .exact nb5 p h9
  .have:=h9.1;omega
 refine⟨_,rfl,λw8 e8=>?_⟩;have k78:=kdr e8;have C8:=C7.k k78;have o8:=o7.k k78;obtain⟨g,cp,cb,hvk,_,_,_⟩:=A1x C8 (i:=i) hi;have r8:∀{W:WD},AB AD w8 W->rd W k (0+100)=some (.slice (some ⟨g,0,none⟩) S.AK cp):=λkk=>by
  have:=C8.rtW kk (j:=6) rfl;rw [hvk] at this;exact this
 refine AA rfl ⟨_,_,_,r8 kr,AA rfl ⟨_,(rd2 o8).2,AA rfl ⟨_,(rd2 o8).2,(PH C8 f (by omega)).AE ?_⟩⟩⟩;rintro _ w9 ⟨k9,⟨i',hi',q1,q2,rfl⟩|⟨q1,_⟩⟩
 rotate_left
 .exfalso;have q1:(f:Int)<0\/AU S.c S.AK<=f:=q1;have:=JN h.my (i:=i+1) (j:=S.AK) (by omega) (nlr _);omega
 have:i'=i:=CR h.my hi' hi q1 q2 h1 h2;subst this;have C9:=C8.k k9;have o9:=o8.k k9;obtain⟨g2,cp2,cb2,hvk2,hrd2,_,hrem⟩:=A1x C9 (i:=i') hi;have eg:g2=g:=by rw [hvk] at hvk2;cases hvk2;rfl
 subst eg;refine⟨_,rfl,⟨(rd2 o9).2,trivial⟩,⟨r8 k9,trivial⟩,AA rfl (Wi ⟨_,by rw [tnc,mo];show rd w9 g2 (0+i')=_;rw [za];exact hrd2,(hrem ok hj h32).AE ?_⟩)⟩;rintro _ w10 ⟨rfl,T10⟩;have o10:=o9.kx T10.kp λ⟨p,hp⟩=>nb7 p hp;have S9:=S7.tr f7 (C7.JW (k78.tr k9));have f9:∀p x,fp7 p x->fp p x\/rng w w9 x:=λp x hx=>(f7 p x hx).imp id λe=>⟨e.1,by have:=(k78.tr k9).sz;have:=e.2;omega⟩;exact⟨_,rfl,AA rfl ⟨_,(rd2 o10).2,rfl,S9.tr f9 T10⟩⟩
